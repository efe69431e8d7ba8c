/- What a new block, a store, a slot's new value do to the relation between a symbolic state and a world. -/
import Derived.Test.YtgmglamjecfngaaSxE
set_option linter.unusedVariables false
set_option linter.unusedSimpArgs false
namespace Go.Sx

def Env.ext (ρ : Env) (b : HB) : Env := ⟨ρ.n + 1, fun h => if h = ρ.n then b else ρ.f h⟩

theorem Env.ext_old {ρ : Env} {b : HB} {h : Nat} (hl : h < ρ.n) : (ρ.ext b) h = ρ h := by
  show (if h = ρ.n then b else ρ.f h) = ρ.f h
  rw [if_neg (by omega)]
theorem Env.ext_new {ρ : Env} {b : HB} : (ρ.ext b) ρ.n = b := by
  show (if ρ.n = ρ.n then b else ρ.f ρ.n) = b
  rw [if_pos rfl]

/-- What is known of an environment's handles is known of any that has more. -/
def Env.Le (ρ ρ' : Env) : Prop := ρ.n ≤ ρ'.n ∧ ∀ h, h < ρ.n → ρ' h = ρ h
theorem Env.Le.refl (ρ : Env) : ρ.Le ρ := ⟨Nat.le_refl _, fun _ _ => rfl⟩
theorem Env.Le.trans {a b c : Env} (h : a.Le b) (k : b.Le c) : a.Le c := ⟨Nat.le_trans h.1 k.1, fun i hi => (k.2 i (Nat.lt_of_lt_of_le hi h.1)).trans (h.2 i hi)⟩
theorem Env.le_ext (ρ : Env) (b : HB) : ρ.Le (ρ.ext b) := ⟨Nat.le_succ _, fun _ h => Env.ext_old h⟩

section
variable {ρ ρ' : Env} {w w' : World} {H : List Ck}

theorem CR.le (hl : ρ.Le ρ') {s : SV} {v : Value} (h : CR ρ s v) : CR ρ' s v := by
  cases s <;> simp only [CR] at h ⊢ <;> try exact h
  case ptr hh o => exact ⟨Nat.lt_of_lt_of_le h.1 hl.1, by rw [hl.2 hh h.1]; exact h.2⟩
  case lst hh n => exact ⟨Nat.lt_of_lt_of_le h.1 hl.1, by rw [hl.2 hh h.1]; exact h.2⟩
  case sl hh o n cl => exact ⟨Nat.lt_of_lt_of_le h.1 hl.1, by rw [hl.2 hh h.1]; exact h.2⟩
theorem XR.le (hl : ρ.Le ρ') {s : SV} {v : Value} (h : XR ρ s v) : XR ρ' s v := by
  cases s
  case agg cs => obtain ⟨vs, h1, h2⟩ := h; exact ⟨vs, h1, h2.mono fun _ _ => CR.le hl⟩
  all_goals (simp only [XR] at h ⊢; exact CR.le hl h)
theorem VR.le (hl : ρ.Le ρ') {s : SV} {v : Value} (h : VR ρ s v) : VR ρ' s v := by
  cases s
  case tup cs => obtain ⟨vs, h1, h2⟩ := h; exact ⟨vs, h1, h2.mono fun _ _ => XR.le hl⟩
  all_goals (simp only [VR] at h ⊢; exact XR.le hl h)
theorem CkR.le (hl : ρ.Le ρ') {h : Nat} (hh : h < ρ.n) {c : Ck} (hc : CkR ρ w h c) : CkR ρ' w h c := by
  cases c with
  | gone => trivial
  | box T cs => obtain ⟨h1, arr, h2, h3⟩ := hc; simp only [CkR, hl.2 h hh]; exact ⟨h1, arr, h2, h3.mono fun _ _ => CR.le hl⟩
  | lst T sz cs =>
    simp only [CkR, hl.2 h hh]
    rcases hc with hc | ⟨h1, h2, arr, n, h3, h4, h5, h6, h7, h8⟩
    · exact .inl hc
    · exact .inr ⟨h1, h2, arr, n, h3, h4, h5, h6, h7, h8.mono fun _ _ => CR.le hl⟩
  | vw cs =>
    simp only [CkR, hl.2 h hh]
    intro i c hi
    obtain ⟨v, h1, h2⟩ := hc i c hi
    exact ⟨v, h1, CR.le hl h2⟩

/-- A chunk whose block stays as it was. -/
theorem CkR.same {h : Nat} {c : Ck} (hc : CkR ρ w h c) (hs : Occ ρ h c → w'.heap[(ρ h).blk]? = w.heap[(ρ h).blk]?) : CkR ρ w' h c := by
  cases c with
  | gone => trivial
  | box T cs => obtain ⟨h1, arr, h2, h3⟩ := hc; exact ⟨h1, arr, by rw [hs (.inl trivial)]; exact h2, h3⟩
  | lst T sz cs =>
    rcases hc with hc | ⟨h1, h2, arr, n, h3, h4⟩
    · exact .inl hc
    · exact .inr ⟨h1, h2, arr, n, by rw [hs (.inl h1)]; exact h3, h4⟩
  | vw cs =>
    intro i c hi
    obtain ⟨v, h1, h2⟩ := hc i c hi
    refine ⟨v, ?_, h2⟩
    have hne : cs ≠ [] := by intro he; rw [he] at hi; simp at hi
    have := hs (.inr ⟨cs, rfl, hne⟩)
    simp only [World.cell?, this] at h1 ⊢
    exact h1

theorem Occ.lt {h : Nat} {c : Ck} (hc : CkR ρ w h c) (ho : Occ ρ h c) : (ρ h).blk < w.heap.size := by
  have of : ∀ {b : Nat} {o : Obj}, w.heap[b]? = some o → b < w.heap.size := fun h => (Array.getElem?_eq_some_iff.1 h).1
  cases c with
  | gone => rcases ho with ho | ⟨cs, ho, _⟩ <;> simp [Owns] at ho
  | box T cs => obtain ⟨_, arr, h2, _⟩ := hc; exact of h2
  | lst T sz cs =>
    rcases ho with ho | ⟨cs, ho, _⟩
    · rcases hc with ⟨h1, _⟩ | ⟨_, _, arr, n, h3, _⟩
      · simp only [Owns] at ho; rw [h1] at ho; cases ho
      · exact of h3
    · cases ho
  | vw cs =>
    rcases ho with ho | ⟨cs', ho, hne⟩
    · simp [Owns] at ho
    · injection ho with ho; subst ho
      cases cs with
      | nil => exact absurd rfl hne
      | cons c r =>
        obtain ⟨v, h1, _⟩ := hc 0 c rfl
        simp only [World.cell?] at h1
        split at h1
        · rename_i hh; exact of hh
        · cases h1

theorem Occ.le (hl : ρ.Le ρ') {h : Nat} (hh : h < ρ.n) {c : Ck} : Occ ρ' h c ↔ Occ ρ h c := by
  unfold Occ Owns
  cases c <;> simp [hl.2 h hh]
theorem Owns.le (hl : ρ.Le ρ') {h : Nat} (hh : h < ρ.n) {c : Ck} : Owns ρ' h c ↔ Owns ρ h c := by
  unfold Owns
  cases c <;> simp [hl.2 h hh]

/-- A new handle at a block that no other one occupies. -/
theorem HR.add (hr : HR ρ H w) {b : HB} {c : Ck} (hold : ∀ k, k < w.heap.size → w'.heap[k]? = w.heap[k]?) (hc : CkR (ρ.ext b) w' ρ.n c)
    (hn : Occ (ρ.ext b) ρ.n c → ∀ h d, H[h]? = some d → Occ ρ h d → (Owns (ρ.ext b) ρ.n c ∨ Owns ρ h d) → (ρ h).blk ≠ b.blk) : HR (ρ.ext b) (H ++ [c]) w' := by
  have hcnt := hr.cnt
  have hle := ρ.le_ext b
  have get : ∀ h d, (H ++ [c])[h]? = some d → (h < H.length ∧ H[h]? = some d) ∨ (h = H.length ∧ d = c) := by
    intro h d hd
    rcases Nat.lt_or_ge h H.length with hl | hl
    · rw [List.getElem?_append_left hl] at hd; exact .inl ⟨hl, hd⟩
    · rw [List.getElem?_append_right hl] at hd
      have h0 : h - H.length = 0 := by
        have := (List.getElem?_eq_some_iff.1 hd).1; simp at this; omega
      rw [h0] at hd
      simp at hd
      exact .inr ⟨by omega, hd.symm⟩
  refine ⟨by simp [Env.ext, hcnt], fun h d hd => ?_, fun h k d e hne hd he ho hoc => ?_⟩
  · rcases get h d hd with ⟨hl, hd1⟩ | ⟨rfl, rfl⟩
    · have h1 := hr.at_ h d hd1
      refine (CkR.le hle (by omega) (w := w') (h1.same fun ho => ?_))
      exact hold _ (Occ.lt h1 ho)
    · rw [← hcnt]; exact hc
  · rcases get h d hd with ⟨hl, hd1⟩ | ⟨rfl, rfl⟩
    · rcases get k e he with ⟨hl', he1⟩ | ⟨rfl, rfl⟩
      · rw [hle.2 h (by omega), hle.2 k (by omega)]
        exact hr.apart h k d e hne hd1 he1 ((Owns.le hle (by omega)).1 ho) ((Occ.le hle (by omega)).1 hoc)
      · rw [← hcnt] at hoc ⊢
        rw [hle.2 h (by omega), Env.ext_new]
        have ho' := (Owns.le hle (by omega)).1 ho
        exact hn hoc h d hd1 (.inl ho') (.inr ho')
    · rcases get k e he with ⟨hl', he1⟩ | ⟨rfl, rfl⟩
      · rw [← hcnt] at ho ⊢
        rw [hle.2 k (by omega), Env.ext_new]
        exact fun e' => hn (.inl ho) k e he1 ((Occ.le hle (by omega)).1 hoc) (.inl ho) e'.symm
      · exact absurd rfl hne

/-- A handle's chunk gets another content; of memory only its own block turns. -/
theorem HR.upd (hr : HR ρ H w) {h : Nat} {c c' : Ck} (hh : H[h]? = some c) (ho : Owns ρ h c) (hold : ∀ k, k < w.heap.size → k ≠ (ρ h).blk → w'.heap[k]? = w.heap[k]?) (hc : CkR ρ w' h c') : HR ρ (H.set h c') w' := by
  have hlt : h < H.length := (List.getElem?_eq_some_iff.1 hh).1
  have get : ∀ k d, (H.set h c')[k]? = some d → (k = h ∧ d = c') ∨ (k ≠ h ∧ H[k]? = some d) := by
    intro k d hd
    by_cases hk : k = h
    · subst hk; rw [List.getElem?_set] at hd; simp [hlt] at hd; exact .inl ⟨rfl, hd.symm⟩
    · rw [List.getElem?_set, if_neg (Ne.symm hk)] at hd; exact .inr ⟨hk, hd⟩
  refine ⟨by simp [hr.cnt], fun k d hd => ?_, fun k l d e hne hd he hod hoe => ?_⟩
  · rcases get k d hd with ⟨rfl, rfl⟩ | ⟨hk, hd1⟩
    · exact hc
    · have h1 := hr.at_ k d hd1
      refine h1.same fun hoc => hold _ (Occ.lt h1 hoc) ?_
      exact (hr.apart h k c d (Ne.symm hk) hh hd1 ho hoc).symm
  · rcases get k d hd with ⟨rfl, rfl⟩ | ⟨hk, hd1⟩
    · rcases get l e he with ⟨rfl, rfl⟩ | ⟨hl, he1⟩
      · exact absurd rfl hne
      · exact hr.apart _ l c e (Ne.symm hl) hh he1 ho hoe
    · rcases get l e he with ⟨rfl, rfl⟩ | ⟨hl, he1⟩
      · exact (hr.apart _ k c d hne.symm hh hd1 ho (.inl hod)).symm
      · exact hr.apart k l d e hne hd1 he1 hod hoe

/-- A handle is let go. -/
theorem HR.drop (hr : HR ρ H w) (h : Nat) : HR ρ (H.set h .gone) w := by
  have get : ∀ (k : Nat) (d : Ck), (H.set h .gone)[k]? = some d → d = Ck.gone ∨ H[k]? = some d := by
    intro k d hd
    by_cases hk : k = h
    · subst hk; rw [List.getElem?_set] at hd; simp at hd; exact .inl hd.2.symm
    · rw [List.getElem?_set, if_neg (Ne.symm hk)] at hd; exact .inr hd
  refine ⟨by simp [hr.cnt], fun k d hd => ?_, fun k l d e hne hd he hod hoe => ?_⟩
  · rcases get k d hd with rfl | hd1
    · trivial
    · exact hr.at_ k d hd1
  · rcases get k d hd with rfl | hd1
    · exact hod.elim
    · rcases get l e he with rfl | he1
      · rcases hoe with hoe | ⟨cs, hoe, _⟩
        · exact hoe.elim
        · cases hoe
      · exact hr.apart k l d e hne hd1 he1 hod hoe

theorem HR.same (hr : HR ρ H w) (h : ∀ k, k < w.heap.size → w'.heap[k]? = w.heap[k]?) : HR ρ H w' :=
  ⟨hr.cnt, fun k d hd => (hr.at_ k d hd).same fun ho => h _ (Occ.lt (hr.at_ k d hd) ho), hr.apart⟩

end

/-! ### States -/


def St.put (s : St) (N : Nat) (d : Option Nat) (v : SV) : St :=
  match d with
  | some d => if d < N then { s with t := (d, v) :: s.t } else s
  | none => s

section
variable {G : Gh} {N : Nat} {ρ : Env} {s : St} {a : Act} {w : World}

theorem VR_undef {v : Value} : VR ρ .undef v := trivial

theorem Rel.put (hr : Rel G N ρ s a w) (d : Option Nat) {sv : SV} {v : Value} (hv : VR ρ sv v) : Rel G N ρ (s.put N d sv) (a.put d v) w := by
  cases d with
  | none => exact hr
  | some d =>
    simp only [St.put]
    split
    · rename_i hd
      refine ⟨by simp [Act.put, hr.sz], hr.df, fun i => ?_, hr.hp, hr.ex, hr.len, hr.fr, hr.own, hr.vws⟩
      rw [look_cons]
      cases hb : Nat.beq d i with
      | true =>
        have : d = i := by simpa using hb
        subst this
        have : d < a.tmps.size := by rw [hr.sz]; exact hd
        simpa [Act.put, this] using hv
      | false =>
        have : d ≠ i := by intro e; subst e; simp at hb
        simpa [Act.put, Array.getElem?_setIfInBounds_ne this] using hr.tm i
    · rename_i hd
      refine ⟨by simp [Act.put, hr.sz], hr.df, fun i => ?_, hr.hp, hr.ex, hr.len, hr.fr, hr.own, hr.vws⟩
      have h1 := hr.tm i
      have : (a.put (some d) v).tmps = a.tmps := by
        simp only [Act.put]
        apply Array.ext (by simp)
        intro j h2 h3
        rw [Array.getElem_setIfInBounds]
        rw [if_neg (by have := hr.sz; omega)]
      rw [this]
      exact h1

/-- A slot forgotten is a slot less known. -/
theorem Rel.forget (hr : Rel G N ρ s a w) (t : List (Nat × SV)) (h : ∀ i, look t i = look s.t i ∨ look t i = .undef) : Rel G N ρ { s with t := t } a w :=
  ⟨hr.sz, hr.df, fun i => by
    rcases h i with h | h
    · show VR ρ (look t i) _
      rw [h]; exact hr.tm i
    · show VR ρ (look t i) _
      rw [h]; exact VR_undef, hr.hp, hr.ex, hr.len, hr.fr, hr.own, hr.vws⟩

theorem Rel.putU (hr : Rel G N ρ s a w) (d : Option Nat) (v : Value) : Rel G N ρ (s.put N d .undef) (a.put d v) w := hr.put d VR_undef

/-- A new handle. -/
theorem Rel.addAt (hr : Rel G N ρ s a w) {w' : World} {b : HB} {c : Ck} (ho : w'.os = w.os) (ht : w'.tape = w.tape) (hout : w'.output = w.output) (hsz : w.heap.size ≤ w'.heap.size)
    (hold : ∀ k, k < w.heap.size → w'.heap[k]? = w.heap[k]?) (hc : CkR (ρ.ext b) w' ρ.n c) (hv : ∀ cs, c ≠ .vw cs)
    (hn : Occ (ρ.ext b) ρ.n c → (∀ h d, s.H[h]? = some d → Occ ρ h d → (ρ h).blk ≠ b.blk) ∧ (G.S b.blk ∨ G.w0.heap.size ≤ b.blk)) : Rel G N (ρ.ext b) { s with H := s.H ++ [c] } a w' := by
  have hle := ρ.le_ext b
  have hcnt := hr.hp.cnt
  refine ⟨hr.sz, hr.df, fun i => (hr.tm i).le hle, hr.hp.add hold hc (fun ho h d hd hod _ => (hn ho).1 h d hd hod), fun h hh => ?_, by simp; have := hr.len; omega, ?_, fun h d hd hod => ?_, fun h cs hd => ?_⟩
  · rw [hle.2 h (by have := hr.len; omega)]; exact hr.ex h hh
  · have hf := hr.fr
    exact ⟨ho.trans hf.os, ht.trans hf.tape, hout.trans hf.output, Nat.le_trans hf.size hsz, fun k hk hs => (hold k (by have := hf.size; omega)).trans (hf.block k hk hs)⟩
  · rcases Nat.lt_or_ge h s.H.length with hl | hl
    · have hd : (s.H ++ [c])[h]? = some d := hd
      rw [List.getElem?_append_left hl] at hd
      rw [hle.2 h (by omega)]
      exact hr.own h d hd ((Owns.le hle (by omega)).1 hod)
    · have hd : (s.H ++ [c])[h]? = some d := hd
      rw [List.getElem?_append_right hl] at hd
      have h0 : h - s.H.length = 0 := by have := (List.getElem?_eq_some_iff.1 hd).1; simp at this; omega
      rw [h0] at hd
      simp at hd
      subst hd
      have hh : h = ρ.n := by omega
      subst hh
      rw [Env.ext_new]
      exact (hn (.inl hod)).2
  · have hd : (s.H ++ [c])[h]? = some (.vw cs) := hd
    rcases Nat.lt_or_ge h s.H.length with hl | hl
    · rw [List.getElem?_append_left hl] at hd
      exact hr.vws h cs hd
    · rw [List.getElem?_append_right hl] at hd
      have h0 : h - s.H.length = 0 := by have := (List.getElem?_eq_some_iff.1 hd).1; simp at this; omega
      rw [h0] at hd
      simp at hd
      exact absurd hd (hv cs)

/-- New memory behind all that is there. -/
theorem Rel.add (hr : Rel G N ρ s a w) {w' : World} {b : HB} {c : Ck} (ho : w'.os = w.os) (ht : w'.tape = w.tape) (hout : w'.output = w.output) (hsz : w.heap.size ≤ w'.heap.size)
    (hold : ∀ k, k < w.heap.size → w'.heap[k]? = w.heap[k]?) (hc : CkR (ρ.ext b) w' ρ.n c) (hv : ∀ cs, c ≠ .vw cs) (hn : Occ (ρ.ext b) ρ.n c → w.heap.size ≤ b.blk) : Rel G N (ρ.ext b) { s with H := s.H ++ [c] } a w' := by
  refine hr.addAt ho ht hout hsz hold hc hv fun hoc => ⟨fun h d hd hod => ?_, ?_⟩
  · have := Occ.lt (hr.hp.at_ h d hd) hod
    have := hn hoc
    omega
  · have h1 := hn hoc
    have h2 := hr.fr.size
    exact .inr (by omega)

theorem Rel.upd (hr : Rel G N ρ s a w) {w' : World} {h : Nat} {c c' : Ck} (hh : s.H[h]? = some c) (hoc : Owns ρ h c) (ho : w'.os = w.os) (ht : w'.tape = w.tape) (hout : w'.output = w.output) (hsz : w.heap.size ≤ w'.heap.size)
    (hold : ∀ k, k < w.heap.size → k ≠ (ρ h).blk → w'.heap[k]? = w.heap[k]?) (hc : CkR ρ w' h c') (hv : ∀ cs, c' ≠ .vw cs) : Rel G N ρ { s with H := s.H.set h c' } a w' := by
  refine ⟨hr.sz, hr.df, hr.tm, hr.hp.upd hh hoc hold hc, hr.ex, by simp; exact hr.len, ?_, fun k d hd hod => ?_, fun k cs hd => ?_⟩
  · have hf := hr.fr
    refine ⟨ho.trans hf.os, ht.trans hf.tape, hout.trans hf.output, Nat.le_trans hf.size hsz, fun k hk hs => ?_⟩
    refine (hold k (by have := hf.size; omega) (fun e => ?_)).trans (hf.block k hk hs)
    rcases hr.own h c hh hoc with h1 | h1
    · exact hs (e ▸ h1)
    · omega
  · by_cases hk : k = h
    · subst hk; exact hr.own k c hh hoc
    · have hd : (s.H.set h c')[k]? = some d := hd
      rw [List.getElem?_set, if_neg (Ne.symm hk)] at hd; exact hr.own k d hd hod
  · have hd : (s.H.set h c')[k]? = some (.vw cs) := hd
    by_cases hk : k = h
    · subst hk
      rw [List.getElem?_set] at hd
      simp at hd
      exact absurd hd.2 (hv cs)
    · rw [List.getElem?_set, if_neg (Ne.symm hk)] at hd; exact hr.vws k cs hd

theorem Rel.drop (hr : Rel G N ρ s a w) (h : Nat) : Rel G N ρ { s with H := s.H.set h .gone } a w := by
  refine ⟨hr.sz, hr.df, hr.tm, hr.hp.drop h, hr.ex, by simp; exact hr.len, hr.fr, fun k d hd hod => ?_, fun k cs hd => ?_⟩
  · have hd : (s.H.set h .gone)[k]? = some d := hd
    by_cases hk : k = h
    · subst hk
      rw [List.getElem?_set] at hd
      simp at hd
      rw [← hd.2] at hod
      exact hod.elim
    · rw [List.getElem?_set, if_neg (Ne.symm hk)] at hd; exact hr.own k d hd hod
  · have hd : (s.H.set h .gone)[k]? = some (.vw cs) := hd
    by_cases hk : k = h
    · subst hk
      rw [List.getElem?_set] at hd
      simp at hd
    · rw [List.getElem?_set, if_neg (Ne.symm hk)] at hd; exact hr.vws k cs hd

theorem Rel.drew (hr : Rel G N ρ s a w) : Rel G N ρ s a { w with drawn := w.drawn + 1 } :=
  ⟨hr.sz, hr.df, hr.tm, ⟨hr.hp.cnt, fun h c hc => hr.hp.at_ h c hc, hr.hp.apart⟩, hr.ex, hr.len, ⟨hr.fr.os, hr.fr.tape, hr.fr.output, hr.fr.size, hr.fr.block⟩, hr.own, hr.vws⟩

end
end Go.Sx
