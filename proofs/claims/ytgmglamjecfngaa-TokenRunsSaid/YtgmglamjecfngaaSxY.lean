/- The executor for Lean's evaluator by value: what acts on memory, and code. -/
import Derived.Test.YtgmglamjecfngaaSxW
set_option linter.unusedVariables false
set_option linter.unusedSimpArgs false
namespace Go.Sx

def set1 {α : Type} : List α → Nat → α → List α
  | [], _, _ => []
  | x :: r, i, a => if i = 0 then a :: r else x :: set1 r (i - 1) a
theorem set1_eq {α : Type} : ∀ (l : List α) (i : Nat) (a : α), set1 l i a = l.set i a
  | [], i, a => by simp [set1]
  | x :: r, i, a => by
    rw [set1, set1_eq r]
    cases i <;> simp

/-- Cells put over cells, where they fit. -/
noncomputable def setO (l : List SV) : Nat → List SV → Option (List SV) := List.rec (motive := fun _ => Nat → List SV → Option (List SV)) (fun o cs => match cs with | [] => if o = 0 then some [] else none | _ => none)
  (fun x r ih o cs => if o = 0 then (match cs with | [] => some (x :: r) | c :: cs => consO c (ih 0 cs)) else consO x (ih (o - 1) cs)) l
theorem setO_nil (o : Nat) (cs : List SV) : setO [] o cs = (match cs with | [] => if o = 0 then some [] else none | _ => none) := rfl
theorem setO_cons (x : SV) (r : List SV) (o : Nat) (cs : List SV) : setO (x :: r) o cs = if o = 0 then (match cs with | [] => some (x :: r) | c :: cs => consO c (setO r 0 cs)) else consO x (setO r (o - 1) cs) := rfl

theorem setO_imp : ∀ {l : List SV} {o : Nat} {cs l' : List SV}, setO l o cs = some l' → o + cs.length ≤ l.length ∧ l' = l.take o ++ cs ++ l.drop (o + cs.length)
  | [], o, cs, l', h => by
    simp only [setO_nil, setO_cons] at h
    split at h
    · split at h
      · rename_i h1; subst h1; simp at h; subst h; simp
      · cases h
    · cases h
  | x :: r, o, cs, l', h => by
    simp only [setO_nil, setO_cons] at h
    split at h
    · rename_i h1; subst h1
      split at h
      · simp at h; subst h; simp
      · rename_i c cs
        obtain ⟨q, h3, rfl⟩ := consO_some h
        obtain ⟨h4, h5⟩ := setO_imp h3
        subst h5
        refine ⟨by simp at h4 ⊢; omega, ?_⟩
        have : 0 + (c :: cs).length = cs.length + 1 := by simp
        rw [this]
        simp
    · rename_i h1
      obtain ⟨m, rfl⟩ : ∃ m, o = m + 1 := ⟨o - 1, by omega⟩
      obtain ⟨q, h3, rfl⟩ := consO_some h
      simp only [Nat.add_sub_cancel] at h3
      obtain ⟨h4, h5⟩ := setO_imp h3
      subst h5
      refine ⟨by simp at h4 ⊢; omega, ?_⟩
      have : m + 1 + cs.length = (m + cs.length) + 1 := by omega
      rw [this]
      simp

theorem setO_spec {l : List SV} {o : Nat} {cs l' : List SV} (h : setO l o cs = some l') : o + cs.length ≤ l.length ∧ l' = setL l o cs := by
  obtain ⟨h1, h2⟩ := setO_imp h
  exact ⟨h1, by rw [setL_eq _ _ _ h1, h2]⟩

def xcv (g : Bool) (v : SV) : Option (List SV) :=
  match g with
  | true => (match v with | .agg cs => some cs | _ => none)
  | false => (match v.sc with | true => some [v] | false => none)
theorem xcv_imp {g : Bool} {v : SV} {cs : List SV} (h : xcv g v = some cs) : cellsOfV g v = some cs := by
  unfold xcv at h
  unfold cellsOfV
  cases g with
  | true => exact h
  | false =>
    simp only [] at h
    simp only [cond_false]
    split at h
    · rename_i h1; rw [h1]; exact h
    · cases h

noncomputable def scB (l : List SV) : Bool := List.rec (motive := fun _ => Bool) true (fun c _ ih => match c.sc with | true => ih | false => false) l
theorem scB_cons (c : SV) (cs : List SV) : scB (c :: cs) = (match c.sc with | true => scB cs | false => false) := rfl
theorem scB_imp : ∀ {cs : List SV}, scB cs = true → AllSc cs
  | [], _ => trivial
  | c :: cs, h => by
    rw [scB_cons] at h
    split at h
    · rename_i h1; exact ⟨h1, scB_imp h⟩
    · cases h

def lenB {α : Type} : List α → Nat → Bool
  | [], n => if n = 0 then true else false
  | _ :: r, n => if n = 0 then false else lenB r (n - 1)
theorem lenB_imp {α : Type} : ∀ {l : List α} {n : Nat}, lenB l n = true → l.length = n
  | [], n, h => by
    simp only [lenB] at h
    split at h
    · rename_i h1; subst h1; rfl
    · cases h
  | x :: r, n, h => by
    simp only [lenB] at h
    split at h
    · cases h
    · have := lenB_imp h; simp; omega

def len1 {α : Type} : List α → Nat
  | [] => 0
  | _ :: r => len1 r + 1
theorem len1_eq {α : Type} : ∀ (l : List α), len1 l = l.length
  | [] => rfl
  | _ :: r => by simp [len1, len1_eq r]

noncomputable def apd {α : Type} (l l' : List α) : List α := List.rec (motive := fun _ => List α) l' (fun x _ ih => x :: ih) l
theorem apd_eq {α : Type} : ∀ (l l' : List α), apd l l' = l ++ l'
  | [], l' => rfl
  | x :: r, l' => by
    show x :: apd r l' = _
    simp [apd_eq r]

noncomputable def xstore (tt : Nat → Option TI) (s : St) (T : Nat) (p v : SV) (K : St → Prop) : Prop :=
  match tt T, p with
  | some i, .ptr h o => bindO (xcv i.d.isAgg v) fun cs => guardB (scB cs) (guardB (lenB cs i.size) (bindO (nth s.H h) fun c => match c with
    | .box T' l => bindO (setO l o cs) fun l' => K ⟨s.t, set1 s.H h (.box T' l')⟩
    | .lst T' sz l => bindO (setO l o cs) fun l' => K ⟨s.t, set1 s.H h (.lst T' sz l')⟩
    | _ => False))
  | _, _ => False

theorem xstore_imp {tt : Nat → Option TI} {s : St} {T : Nat} {p v : SV} {K K' : St → Prop} (hk : ∀ s, K s → K' s) (h : xstore tt s T p v K) : estore tt s T p v K' := by
  unfold xstore at h
  unfold estore
  split at h
  · rename_i i hh o h1
    obtain ⟨cs, h3, h⟩ := bindO_ex h
    obtain ⟨h4, h⟩ := guardB_imp h
    obtain ⟨h5, h⟩ := guardB_imp h
    obtain ⟨c, h6, h⟩ := bindO_ex h
    rw [nth_eq] at h6
    simp only [h1]
    split at h
    · rename_i T' l
      obtain ⟨l', h7, h⟩ := bindO_ex h
      obtain ⟨h8, rfl⟩ := setO_spec h7
      rw [set1_eq] at h
      exact ⟨cs, _, _, xcv_imp h3, h6, rfl, scB_imp h4, lenB_imp h5, h8, hk _ h⟩
    · rename_i T' sz l
      obtain ⟨l', h7, h⟩ := bindO_ex h
      obtain ⟨h8, rfl⟩ := setO_spec h7
      rw [set1_eq] at h
      exact ⟨cs, _, _, xcv_imp h3, h6, rfl, scB_imp h4, lenB_imp h5, h8, hk _ h⟩
    · exact h.elim
  · exact h.elim

/-! ### New memory -/

noncomputable def xfill (ev : Operand → SV) (place : Nat → Option (Nat × Nat)) (ag : Nat → Bool) : List (Nat × Operand) → List SV → (List SV → Prop) → Prop
  | [], cells, κ => κ cells
  | (i, x) :: r, cells, κ => bindO (place i) fun p => bindO (xcv (ag i) (ev x)) fun cs => guardB (lenB cs p.2) (bindO (setO cells p.1 cs) fun cells' => xfill ev place ag r cells' κ)

theorem xfill_imp {ev ev' : Operand → SV} (hev : ∀ x, ev x = ev' x) {pl pl' : Nat → Option (Nat × Nat)} (hpl : ∀ i p, pl i = some p → pl' i = some p) {ag ag' : Nat → Bool} (hag : ∀ i, (pl i).isSome → ag i = ag' i) {κ κ' : List SV → Prop} (hk : ∀ l, κ l → κ' l) :
    ∀ {parts : List (Nat × Operand)} {cells : List SV}, xfill ev pl ag parts cells κ → efill ev' pl' ag' parts cells κ'
  | [], cells, h => hk _ h
  | (i, x) :: r, cells, h => by
    obtain ⟨p, h1, h⟩ := bindO_ex h
    obtain ⟨cs, h2, h⟩ := bindO_ex h
    obtain ⟨h3, h⟩ := guardB_imp h
    obtain ⟨l', h4, h⟩ := bindO_ex h
    obtain ⟨h5, rfl⟩ := setO_spec h4
    simp only [efill]
    obtain ⟨off, size⟩ := p
    rw [hpl _ _ h1]
    rw [hag i (by rw [h1]; rfl), hev] at h2
    exact ⟨cs, xcv_imp h2, lenB_imp h3, h5, xfill_imp hev hpl hag hk h⟩

noncomputable def xfp (fs : List (Nat × Nat × Nat)) (i : Nat) : Option (Nat × Nat) :=
  match nth fs i with
  | some f => some (f.1, f.2.2)
  | none => none
noncomputable def xfa (tt : Nat → Option TI) (fs : List (Nat × Nat × Nat)) (i : Nat) : Bool :=
  match nth fs i with
  | some f => (match tt f.2.1 with | some j => j.d.isAgg | none => false)
  | none => false
def xfo (tt : Nat → Option TI) : List (Nat × Nat × Nat) → Bool
  | [] => true
  | f :: fs => (match tt f.2.1 with | some j => (if j.size = f.2.2 then xfo tt fs else false) | none => false)
theorem xfo_imp {tt : Nat → Option TI} : ∀ {fs : List (Nat × Nat × Nat)}, xfo tt fs = true → fieldsOk tt fs = true
  | [], _ => rfl
  | f :: fs, h => by
    simp only [xfo] at h
    simp only [fieldsOk]
    split at h
    · rename_i j hj
      split at h
      · rename_i h1; rw [hj]; simp [h1, xfo_imp h]
      · cases h
    · cases h

def mapS : List Value → List SV
  | [] => []
  | v :: r => SV.of v :: mapS r
theorem mapS_eq : ∀ (l : List Value), mapS l = l.map SV.of
  | [] => rfl
  | v :: r => by simp [mapS, mapS_eq r]

noncomputable def zrp {α : Type} : List α → List SV → List SV
  | [], _ => []
  | _ :: r, z => apd z (zrp r z)
theorem zrp_one {α : Type} : ∀ (l : List α) (z : Value), zrp l [SV.of z] = zrow l.length [z]
  | [], z => by rw [zrow_one]; rfl
  | x :: r, z => by rw [zrp, zrp_one r, zrow_one, zrow_one, apd_eq]; simp [List.replicate_succ]

theorem zrow_succ (n : Nat) (zs : List Value) (hz : 0 < zs.length) : zrow (n + 1) zs = zs.map SV.of ++ zrow n zs := by
  unfold zrow
  apply List.ext_getElem?
  intro q
  have e : (n + 1) * zs.length = zs.length + n * zs.length := by rw [Nat.add_mul, Nat.one_mul, Nat.add_comm]
  rcases Nat.lt_or_ge q zs.length with hq | hq
  · rw [List.getElem?_append_left (by simpa using hq), List.getElem?_map, List.getElem?_range (by omega), List.getElem?_map]
    simp [List.getD, Nat.mod_eq_of_lt hq, hq]
  · rw [List.getElem?_append_right (by simpa using hq), List.length_map]
    rcases Nat.lt_or_ge q ((n + 1) * zs.length) with h2 | h2
    · rw [List.getElem?_map, List.getElem?_range h2, List.getElem?_map, List.getElem?_range (by omega)]
      simp only [Option.map_some]
      congr 3
      rw [Nat.mod_eq_sub_mod hq]
    · rw [List.getElem?_eq_none (by simpa using h2), List.getElem?_eq_none (by simp; omega)]
theorem zrp_all {α : Type} (zs : List Value) (hz : 0 < zs.length) : ∀ (l : List α), zrp l (mapS zs) = zrow l.length zs
  | [] => by simp [zrp, zrow]
  | x :: r => by rw [zrp, zrp_all zs hz r, List.length_cons, zrow_succ _ _ hz, apd_eq, mapS_eq]

def oneZ : List Value → Option Value
  | [z] => some z
  | _ => none
theorem oneZ_some {l : List Value} {z : Value} (h : oneZ l = some z) : l = [z] := by
  unfold oneZ at h
  split at h
  · simp at h; subst h; rfl
  · cases h

/-- Zero elements for a literal's parts: of elements of one cell, or where no cell stays zero. -/
noncomputable def xzero (n : Nat) (parts : List (Nat × Operand)) (j : TI) (κ : List SV → Prop) : Prop :=
  guardB (lenB parts n) (match oneZ j.zero with
    | some z => κ (zrp parts [SV.of z])
    | none => κ (zrp parts (mapS j.zero)))

noncomputable def xnew (A : Ar) (tt : Nat → Option TI) (s : St) : Op → (SV → Ck → Prop) → Prop
  | .box T x, κ => (match tt T with
    | some i => bindO (xcv i.d.isAgg (evx s x)) fun cs => κ (.ptr (len1 s.H) 0) (.box T cs)
    | none => False)
  | .alloc T, κ => (match tt T with
    | some i => κ (.ptr (len1 s.H) 0) (.box T (mapS i.zero))
    | none => False)
  | .buildSlice T n parts, κ => (match tt T with
    | some ⟨.slice e, _, _, _⟩ => (match tt e with
      | some j => guardB (decide (n * j.size ≤ 1000000)) (guardB (lenB j.zero j.size) (guardB (decide (0 < j.size)) (xzero n parts.toList j fun z =>
          xfill (evx s) (fun i => some (i * j.size, j.size)) (fun _ => j.d.isAgg) parts.toList z fun cs => κ (.lst (len1 s.H) n) (.lst e j.size cs))))
      | none => False)
    | _ => False)
  | .makeSlice T l c, κ => (match tt T, evx s l, evx s c with
    | some ⟨.slice e, _, _, _⟩, .int _ l, .int _ c => (match tt e with
      | some j => A.mks j.bytes l c ∧ guardB (lenB j.zero j.size) (guardB (decide (0 < j.size)) (κ (.lst (len1 s.H) (A.tn l)) (.lst e j.size (A.row l j.zero))))
      | none => False)
    | _, _, _ => False)
  | _, _ => False

theorem xnew_imp {tt : Nat → Option TI} {s : St} {op : Op} {κ κ' : SV → Ck → Prop} (hk : ∀ v c, κ v c → κ' v c) (h : xnew R tt s op κ) : enew tt s op κ' := by
  unfold xnew at h
  simp only [len1_eq, mapS_eq] at h
  split at h
  · unfold enew
    split at h
    · rename_i i hi
      obtain ⟨cs, h1, h2⟩ := bindO_ex h
      rw [evx_eq] at h1
      simp only [hi]
      exact ⟨cs, xcv_imp h1, hk _ _ h2⟩
    · exact h.elim
  · unfold enew
    split at h
    · rename_i i hi; simp only [hi]; exact hk _ _ h
    · exact h.elim
  · unfold enew
    rename_i T n parts
    split at h
    · rename_i hi
      simp only [hi]
      split at h
      · rename_i j hj
        simp only [hj]
        obtain ⟨h1, h⟩ := guardB_imp h
        obtain ⟨h2, h⟩ := guardB_imp h
        obtain ⟨h3, h⟩ := guardB_imp h
        refine ⟨of_decide_eq_true h1, lenB_imp h2, of_decide_eq_true h3, ?_⟩
        unfold xzero at h
        obtain ⟨h4, h⟩ := guardB_imp h
        have h4 := lenB_imp h4
        split at h
        · rename_i z hz
          rw [zrp_one, h4, ← oneZ_some hz] at h
          exact xfill_imp (evx_eq s) (fun i p h => h) (fun i _ => rfl) (fun l hl => hk _ _ hl) h
        · have h5 := lenB_imp h2
          have h6 := of_decide_eq_true h3
          rw [zrp_all _ (by omega), h4] at h
          exact xfill_imp (evx_eq s) (fun i p h => h) (fun i _ => rfl) (fun l hl => hk _ _ hl) h
      · exact h.elim
    · exact h.elim
  · unfold enew
    split at h
    · rename_i h1 h2 h3
      rw [evx_eq] at h2 h3
      simp only [h1, h2, h3]
      split at h
      · rename_i j hj
        simp only [hj]
        obtain ⟨⟨h4, h5, h6, h7⟩, h⟩ := h
        obtain ⟨h8, h⟩ := guardB_imp h
        obtain ⟨h9, h⟩ := guardB_imp h
        exact ⟨h4, h5, h6, h7, lenB_imp h8, of_decide_eq_true h9, hk _ _ h⟩
      · exact h.elim
    · exact h.elim
  · exact h.elim

noncomputable def xbuild (tt : Nat → Option TI) (s : St) (T : Nat) (parts : List (Nat × Operand)) (κ : SV → Prop) : Prop :=
  match tt T with
  | some ⟨.struct fs, _, _, z⟩ => guardB (xfo tt fs) (xfill (evx s) (xfp fs) (xfa tt fs) parts (mapS z) fun cs => κ (.agg cs))
  | some ⟨.array n e, _, _, z⟩ => (match tt e with
    | some j => xfill (evx s) (fun i => some (i * j.size, j.size)) (fun _ => j.d.isAgg) parts (mapS z) fun cs => κ (.agg cs)
    | none => False)
  | _ => False

theorem xbuild_imp {tt : Nat → Option TI} {s : St} {T : Nat} {parts : List (Nat × Operand)} {κ κ' : SV → Prop} (hk : ∀ v, κ v → κ' v) (h : xbuild tt s T parts κ) : pbuild tt s T parts κ' := by
  unfold xbuild at h
  simp only [mapS_eq] at h
  unfold pbuild
  split at h
  · rename_i fs a b z hi
    simp only [hi]
    obtain ⟨h1, h⟩ := guardB_imp h
    refine ⟨xfo_imp h1, xfill_imp (evx_eq s) (fun i p h => ?_) (fun i _ => ?_) (fun l hl => hk _ hl) h⟩
    · unfold xfp at h; rw [nth_eq] at h
      unfold fieldPl
      split at h
      · rename_i f hf; rw [hf]; exact h
      · cases h
    · unfold xfa fieldAg; rw [nth_eq]; rfl
  · rename_i n e a b z hi
    simp only [hi]
    split at h
    · rename_i j hj
      simp only [hj]
      exact xfill_imp (evx_eq s) (fun i p h => h) (fun i _ => rfl) (fun l hl => hk _ hl) h
    · exact h.elim
  · exact h.elim

/-! ### append -/

def xmul (A : Ar) (m sz : Nat) : Nat := if sz = 1 then m else A.mul m sz
theorem xmul_eq (m sz : Nat) : xmul R m sz = m * sz := by
  unfold xmul
  split
  · rename_i h; subst h; simp
  · rfl

noncomputable def xsrc (A : Ar) (s : St) (sz : Nat) : SV → (Nat → List SV → Prop) → Prop
  | .nilS, κ => κ 0 []
  | .lst h m, κ => if sz = 1 then (xcells s.H h fun cs => bindO (sub1 cs 0 (xmul A m sz)) (κ m)) else xcells s.H h fun cs => A.len cs m sz ∧ κ m cs
  | .sl h o m _, κ => xcells s.H h fun cs => bindO (sub1 cs o (xmul A m sz)) (κ m)
  | _, _ => False

theorem xcs_imp {H : List Ck} {h o n : Nat} {κ : List SV → Prop} (hx : xcells H h fun cs => bindO (sub1 cs o n) κ) : ∃ cs, cellsAt H h o n = some cs ∧ κ cs := by
  refine xcells_imp (κ := κ) (fun v hv => hv) ?_
  obtain ⟨c, h1, h2⟩ := bindO_ex hx
  obtain ⟨v, h3, h4⟩ := bindO_ex h2
  unfold xcells
  exact bindO_of h1 (bindO_of (sub1_imp h3) h4)

theorem xsrc_imp {s : St} {sz : Nat} {y : SV} {κ κ' : Nat → List SV → Prop} (hk : ∀ m l, κ m l → κ' m l) (h : xsrc R s sz y κ) : srcCells s sz y κ' := by
  unfold xsrc at h
  unfold srcCells
  split at h
  · exact hk _ _ h
  · split at h
    · rw [xmul_eq] at h
      obtain ⟨cs, h1, h2⟩ := xcs_imp h
      exact ⟨cs, h1, hk _ _ h2⟩
    · rename_i hh m hz
      obtain ⟨c, h1, h2, h3⟩ := bindO_ex h
      rw [nth_eq] at h1
      have h2 : c.cells.length = m * sz := h2
      refine ⟨c.cells, ?_, hk _ _ h3⟩
      rw [cellsAt_eq h1 (by omega), List.drop_zero, List.take_of_length_le (by omega)]
  · rw [xmul_eq] at h
    obtain ⟨cs, h1, h2⟩ := xcs_imp h
    exact ⟨cs, h1, hk _ _ h2⟩
  · exact h.elim

noncomputable def xappend (A : Ar) (tt : Nat → Option TI) (s : St) (T : Nat) (x y : SV) (κ : SV → List Ck → Prop) : Prop :=
  match tt T with
  | some ⟨.slice e, _, _, _⟩ => (match tt e with
    | some j => guardB (decide (0 < j.size)) (guardB (decide (0 < j.bytes)) (guardB (lenB j.zero j.size) (xsrc A s j.size y fun m news => guardB (scB news) (match x with
      | .nilS => A.fit m j.bytes ∧ κ (.lst (len1 s.H) m) (apd s.H [.lst e j.size news])
      | .lst h n => bindO (nth s.H h) fun c => (match c with
        | .lst e' sz' cs => guardB (decide (e' = e)) (guardB (decide (sz' = j.size)) (A.len cs n j.size ∧ A.fit (A.add n m) j.bytes ∧ κ (.lst (len1 s.H) (A.add n m)) (apd (set1 s.H h .gone) [.lst e j.size (apd cs news)])))
        | _ => False)
      | .sl h o n true => A.pos m ∧ xcells s.H h fun l => bindO (sub1 l o (xmul A n j.size)) fun cs => A.fit (A.add n m) j.bytes ∧ κ (.lst (len1 s.H) (A.add n m)) (apd s.H [.lst e j.size (apd cs news)])
      | _ => False))))
    | none => False)
  | _ => False

theorem xappend_imp {tt : Nat → Option TI} {s : St} {T : Nat} {x y : SV} {κ κ' : SV → List Ck → Prop} (hk : ∀ v l, κ v l → κ' v l) (h : xappend R tt s T x y κ) : eappend tt s T x y κ' := by
  unfold xappend at h
  simp only [len1_eq, set1_eq, apd_eq] at h
  unfold eappend
  split at h
  · rename_i hi
    simp only [hi]
    split at h
    · rename_i j hj
      simp only [hj]
      obtain ⟨h1, h⟩ := guardB_imp h
      obtain ⟨h2, h⟩ := guardB_imp h
      obtain ⟨h3, h⟩ := guardB_imp h
      refine ⟨of_decide_eq_true h1, of_decide_eq_true h2, lenB_imp h3, xsrc_imp (fun m news h => ?_) h⟩
      obtain ⟨h4, h⟩ := guardB_imp h
      refine ⟨scB_imp h4, ?_⟩
      split at h
      · exact ⟨h.1, hk _ _ h.2⟩
      · obtain ⟨c, h5, h⟩ := bindO_ex h
        rw [nth_eq] at h5
        split at h
        · rename_i e' sz' cs
          have g1 := guardB_imp h
          have g2 := guardB_imp g1.2
          have h6 := of_decide_eq_true g1.1
          have h7 := of_decide_eq_true g2.1
          have g3 := g2.2
          clear g1 g2 h
          subst h6
          subst h7
          exact ⟨cs, h5, g3.1, g3.2.1, hk _ _ g3.2.2⟩
        · exact h.elim
      · obtain ⟨h5, h⟩ := h
        rw [xmul_eq] at h
        obtain ⟨cs, h6, h7, h8⟩ := xcs_imp h
        exact ⟨h5, cs, h6, h7, hk _ _ h8⟩
      · exact h.elim
    · exact h.elim
  · exact h.elim

end Go.Sx
