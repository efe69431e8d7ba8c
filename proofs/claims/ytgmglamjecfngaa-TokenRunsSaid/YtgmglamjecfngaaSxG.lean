/- Operations that act on memory: what they come to on symbolic states. -/
import Derived.Test.YtgmglamjecfngaaSxF
import Derived.Test.YtgmglamjecfngaaSxM
set_option linter.unusedVariables false
set_option linter.unusedSimpArgs false
namespace Go.Sx

def setL {α : Type} : List α → Nat → List α → List α
  | l, _, [] => l
  | l, o, c :: cs => setL (l.set o c) (o + 1) cs

theorem length_setL {α : Type} : ∀ (l : List α) (o : Nat) (cs : List α), (setL l o cs).length = l.length
  | l, o, [] => rfl
  | l, o, c :: cs => by simp [setL, length_setL]

theorem setL_eq {α : Type} : ∀ (l : List α) (o : Nat) (cs : List α), o + cs.length ≤ l.length → setL l o cs = l.take o ++ cs ++ l.drop (o + cs.length)
  | l, o, [], _ => by simp [setL]
  | l, o, c :: cs, h => by
    simp only [List.length_cons] at h
    rw [setL, setL_eq _ _ _ (by simp; omega)]
    have h1 : (l.set o c).take (o + 1) = l.take o ++ [c] := by
      rw [List.take_set]
      apply List.ext_getElem?
      intro i
      rw [List.getElem?_set]
      by_cases hi : o = i
      · subst hi
        have hm : o < min (o + 1) l.length := by omega
        have hm2 : (l.take o).length ≤ o := by rw [List.length_take]; omega
        rw [if_pos rfl, if_pos (by rw [List.length_take]; exact hm), List.getElem?_append_right hm2]
        simp [Nat.min_eq_left (show o ≤ l.length by omega)]
      · rw [if_neg hi]
        by_cases hlt : i < o
        · rw [List.getElem?_append_left (by simp; omega), List.getElem?_take, List.getElem?_take, if_pos (by omega), if_pos hlt]
        · rw [List.getElem?_take, if_neg (by omega), List.getElem?_append_right (by simp; omega)]
          simp
          omega
    have h2 : (l.set o c).drop (o + 1 + cs.length) = l.drop (o + (cs.length + 1)) := by
      rw [List.drop_set_of_lt (by omega)]
      congr 1
      omega
    rw [h1, h2]
    simp

theorem All2.setL {α β : Type} {R : α → β → Prop} : ∀ {xs : List α} {ys : List β} (o : Nat) {cs : List α} {vs : List β}, All2 R xs ys → All2 R cs vs → All2 R (Go.Sx.setL xs o cs) (Go.Sx.setL ys o vs)
  | xs, ys, o, [], vs, h, hc => by rw [hc.nil_left]; exact h
  | xs, ys, o, c :: cs, vs, h, hc => by
    obtain ⟨v, us, rfl, h1, h2⟩ := hc.cons_left
    exact All2.setL (o + 1) (h.set o h1) h2

/-- The cells of a value of a type. -/
def cellsOfV (isAgg : Bool) (v : SV) : Option (List SV) :=
  bif isAgg then (match v with | .agg cs => some cs | _ => none) else (bif v.sc then some [v] else none)

def AllSc : List SV → Prop
  | [] => True
  | c :: cs => c.sc = true ∧ AllSc cs

theorem AllSc_mem {l : List SV} (h : AllSc l) : ∀ c ∈ l, c.sc = true := by
  induction l with
  | nil => simp
  | cons c l ih => intro d hd; rcases List.mem_cons.1 hd with rfl | hd; exact h.1; exact ih h.2 d hd
theorem AllSc_of {l : List SV} (h : ∀ c ∈ l, c.sc = true) : AllSc l := by
  induction l with
  | nil => trivial
  | cons c l ih => exact ⟨h c (by simp), ih fun d hd => h d (by simp [hd])⟩

def putCk (c : Ck) (o : Nat) (cs : List SV) : Option Ck :=
  match c with
  | .box T l => some (.box T (setL l o cs))
  | .lst T sz l => some (.lst T sz (setL l o cs))
  | _ => none

def estore (tt : Nat → Option TI) (s : St) (T : Nat) (p v : SV) (K : St → Prop) : Prop :=
  match tt T, p with
  | some i, .ptr h o => ∃ cs c c', cellsOfV i.d.isAgg v = some cs ∧ s.H[h]? = some c ∧ putCk c o cs = some c' ∧ AllSc cs ∧ cs.length = i.size ∧ o + cs.length ≤ c.cells.length ∧ K { s with H := s.H.set h c' }
  | _, _ => False

section
variable {P : Program} {tt : Nat → Option TI} {G : Gh} {N : Nat} {ρ : Env} {s : St} {a : Act} {w : World}

theorem cellsOfV_run {b : Bool} {v : SV} {u : Value} {cs : List SV} (hv : VR ρ v u) (h : cellsOfV b v = some cs) : ∃ vs : List Value, u.cells = vs.toArray ∧ All2 (CR ρ) cs vs := by
  unfold cellsOfV at h
  cases b with
  | true =>
    simp only [cond_true] at h
    split at h
    · simp only [Option.some.injEq] at h
      subst h
      obtain ⟨vs, rfl, hall⟩ := hv
      exact ⟨vs, rfl, hall⟩
    · cases h
  | false =>
    simp only [cond_false] at h
    cases hs : v.sc with
    | false => simp [hs] at h
    | true =>
      simp [hs] at h
      subst h
      have hc := CR_of_VR hs hv
      refine ⟨[u], ?_, All2.cons hc (All2.nil _)⟩
      have := CR_oneCell hs hc
      cases u <;> first | rfl | (simp [Value.oneCell'] at this)

theorem scs_oneCell {cs : List SV} {vs : List Value} (h : AllSc cs) (hall : All2 (CR ρ) cs vs) : ∀ v ∈ vs, v.oneCell' = true := by
  intro v hv
  obtain ⟨i, hi⟩ := List.getElem?_of_mem hv
  have hlt : i < cs.length := by rw [hall.1]; exact (List.getElem?_eq_some_iff.1 hi).1
  exact CR_oneCell (AllSc_mem h cs[i] (List.getElem_mem hlt)) (hall.2 i cs[i] v (by simp [hlt]) hi)

theorem estore_sound (tok : TIok P tt) (hr : Rel G N ρ s a w) {T : Nat} {p v : SV} {pv vv : Value} (hp : VR ρ p pv) (hv : VR ρ v vv) {K : St → Prop} (h : estore tt s T p v K) :
    ∃ w' s', (Instr.storeAt T pv vv).run P w = .ok () w' ∧ K s' ∧ s'.t = s.t ∧ Rel G N ρ s' a w' := by
  unfold estore at h
  split at h
  · rename_i i hh o ht
    obtain ⟨cs, c, c', h1, h2, h3, h4, h5, h6, h7⟩ := h
    obtain ⟨inf, d, z, k1, k2, k3, rfl⟩ := tiv_some (tok _ _ ht)
    simp only [VR_ptr] at hp
    obtain ⟨hlt, rfl⟩ := hp
    obtain ⟨vs, e1, hall⟩ := cellsOfV_run hv h1
    have hone := scs_oneCell h4 hall
    have hlen : vs.length = inf.size := by rw [← hall.1]; exact h5
    have hrun : ∀ (arr : Array Value) (E : Nat), (ρ hh).base = 0 → w.heap[(ρ hh).blk]? = some (.cells arr E (0, 0)) → o + cs.length ≤ arr.size →
        (Instr.storeAt T (.pointer (some ⟨(ρ hh).blk, (ρ hh).base + o, none⟩)) vv).run P w = .ok () (w.setRow (ρ hh).blk (setL arr.toList o vs).toArray) := by
      intro arr E hb harr hfit
      have hst := run_storeCells_at P (ρ hh).blk o E vs 0 arr w harr (by rw [← hall.1]; omega) hone
      rw [hb, Nat.zero_add]
      rw [setL_eq _ _ _ (by rw [← hall.1]; simpa using hfit)]
      simp only [Nat.add_zero] at hst
      simp [Instr.storeAt, Instr.sureAddr, storeVar, sizeOf, typeInfo, k1, e1, hlen, hst]
    cases c with
    | gone => simp [putCk] at h3
    | vw l => simp [putCk] at h3
    | box E l =>
      simp only [putCk, Option.some.injEq] at h3
      subst h3
      obtain ⟨hb, arr, harr, hal⟩ := hr.hp.at_ hh _ h2
      have hfit : o + cs.length ≤ arr.size := by
        have e3 : l.length = arr.size := hal.1.trans Array.length_toList
        have e4 : o + cs.length ≤ l.length := h6
        omega
      refine ⟨_, _, hrun arr E hb harr hfit, h7, rfl, hr.upd h2 trivial rfl rfl rfl (by simp [World.setRow]) (fun k _ hk => setRow_other w _ k _ hk) ?_ (by simp)⟩
      exact ⟨hb, _, setRow_heap w _ arr _ E _ harr, by simpa using hal.setL o hall⟩
    | lst E sz l =>
      simp only [putCk, Option.some.injEq] at h3
      subst h3
      simp only [Ck.cells] at h6
      rcases hr.hp.at_ hh _ h2 with ⟨hn, rfl⟩ | ⟨hn, hb, arr, n, harr, q1, q2, q3, q4, hal⟩
      · simp at h6
        have : cs = [] := h6.2
        subst this
        have hvs : vs = [] := hall.nil_left
        subst hvs
        refine ⟨w, _, ?_, h7, rfl, ?_⟩
        · have h0 : inf.size = 0 := by rw [← hlen]; rfl
          simp [Instr.storeAt, Instr.sureAddr, storeVar, sizeOf, typeInfo, k1, e1, h0, storeCells]
        · have : s.H.set hh (.lst E sz (Go.Sx.setL [] o [])) = s.H := by
            simp only [Go.Sx.setL]
            apply List.ext_getElem?
            intro k
            rw [List.getElem?_set]
            split
            · rename_i e; subst e; rw [h2]; simp [(List.getElem?_eq_some_iff.1 h2).1]
            · rfl
          rw [this]; exact hr
      · have hls : l.length ≤ arr.size := by rw [q1, q4]; exact Nat.mul_le_mul_right _ q2
        refine ⟨_, _, hrun arr E hb harr (by omega), h7, rfl, hr.upd h2 hn rfl rfl rfl (by simp [World.setRow]) (fun k _ hk => setRow_other w _ k _ hk) ?_ (by simp)⟩
        refine .inr ⟨hn, hb, _, n, setRow_heap w _ arr _ E _ harr, by rw [length_setL]; exact q1, q2, q3, by simp [length_setL]; exact q4, ?_⟩
        rw [length_setL]
        have e2 : (Go.Sx.setL arr.toList o vs).take l.length = Go.Sx.setL (arr.toList.take l.length) o vs := by
          have f1 : o + vs.length ≤ arr.toList.length := by rw [Array.length_toList (xs := arr), ← hall.1]; omega
          have f2 : o + vs.length ≤ (arr.toList.take l.length).length := by rw [List.length_take, Array.length_toList (xs := arr), ← hall.1]; omega
          rw [setL_eq _ _ _ f1, setL_eq _ _ _ f2]
          rw [← hall.1]
          apply List.ext_getElem?
          intro k
          simp only [List.getElem?_take, List.getElem?_append, List.length_append, List.length_take, Array.length_toList, List.getElem?_drop]
          have m1 : min o arr.size = o := by omega
          have m2 : min o (min l.length arr.size) = o := by omega
          rw [m1, m2, ← hall.1]
          by_cases hk : k < l.length
          · rw [if_pos hk]
            by_cases ho : k < o + cs.length
            · rw [if_pos ho, if_pos ho]
              by_cases ho2 : k < o
              · simp [ho2, hk]
              · simp [ho2]
            · rw [if_neg ho, if_neg ho, if_pos (by omega)]
          · rw [if_neg hk, if_neg (by omega), if_neg (by omega)]
        show All2 (CR ρ) (Go.Sx.setL l o cs) ((Go.Sx.setL arr.toList o vs).toArray.toList.take l.length)
        simp only [List.toList_toArray]
        rw [e2]
        exact hal.setL o hall
  · exact h.elim

end
end Go.Sx
