/- token: a text's runs: the plain law. -/
import Derived.Test.YtgmglamjecfngaaTe
set_option maxRecDepth 100000
set_option maxHeartbeats 4000000
set_option linter.unusedVariables false
set_option linter.unusedSimpArgs false
namespace Go.Sx
open Go.Proofs.Try

def lastT (o : List (List Int)) : List Int := o.getD (o.length - 1) []
/-- What one more byte makes of the tokens. -/
def rstep (nw : Bool) (x : Int) (o : List (List Int)) : List (List Int) :=
  if nw = true then o ++ [[x, 0, 0]]
  else if (lastT o).getD 2 0 = 0 ∨ (lastT o).getD 2 0 = 258 then o ++ [[0, 1, 1]]
  else o.set (o.length - 1) [(lastT o).getD 0 0, (lastT o).getD 1 0, (lastT o).getD 2 0 + 1]
def nwR (xs : List Int) (j : Nat) : Bool := decide (j = 0 ∨ xs.getD j 0 ≠ xs.getD (j - 1) 0)
def rr (xs : List Int) : Nat → List (List Int)
  | 0 => []
  | j + 1 => rstep (nwR xs j) (xs.getD j 0) (rr xs j)

theorem lastT_app (o : List (List Int)) (t : List Int) : lastT (o ++ [t]) = t := by simp [lastT, List.getD]
theorem rstep_old {x : Int} {o : List (List Int)} {t : List Int} : rstep false x (o ++ [t]) = if t.getD 2 0 = 0 ∨ t.getD 2 0 = 258 then o ++ [t] ++ [[0, 1, 1]] else o ++ [[t.getD 0 0, t.getD 1 0, t.getD 2 0 + 1]] := by
  unfold rstep
  rw [lastT_app, if_neg (by decide)]
  split
  · rfl
  · simp
theorem rr_len (xs : List Int) : ∀ j, (rr xs j).length ≤ j
  | 0 => by simp [rr]
  | j + 1 => by
    have := rr_len xs j
    simp only [rr, rstep]
    split
    · simp; omega
    · split <;> simp <;> omega

theorem rr_pos (xs : List Int) : ∀ j, 0 < j → 0 < (rr xs j).length
  | j + 1, _ => by
    simp only [rr, rstep]
    split
    · simp
    · split
      · simp
      · rename_i h
        rw [List.length_set]
        rcases Nat.eq_zero_or_pos (rr xs j).length with h0 | h0
        · rw [List.eq_nil_of_length_eq_zero h0] at h
          exact absurd (.inl rfl) h
        · exact h0

/-- What tokens tell behind ys, if they are runs'. -/
def Tl : List Int → List (List Int) → List Int → Prop
  | ys, [], zs => zs = ys
  | ys, t :: ts, zs => (t.getD 2 0 = 0 ∧ Tl (ys ++ [t.getD 0 0]) ts zs) ∨ (0 < t.getD 2 0 ∧ t.getD 2 0 ≤ 258 ∧ t.getD 1 0 = 1 ∧ 1 ≤ ys.length ∧ Tl (cp ys 1 (t.getD 2 0).toNat) ts zs)
theorem Tl_app {b : List (List Int)} {zs : List Int} : ∀ {a : List (List Int)} {ys : List Int}, Tl ys (a ++ b) zs ↔ ∃ ms, Tl ys a ms ∧ Tl ms b zs
  | [], ys => by simp [Tl]
  | t :: a, ys => by
    simp only [List.cons_append, Tl, Tl_app (a := a)]
    constructor
    · rintro (⟨h1, ms, h2, h3⟩ | ⟨h1, h2, h3, h4, ms, h5, h6⟩)
      · exact ⟨ms, .inl ⟨h1, h2⟩, h3⟩
      · exact ⟨ms, .inr ⟨h1, h2, h3, h4, h5⟩, h6⟩
    · rintro ⟨ms, ⟨h1, h2⟩ | ⟨h1, h2, h3, h4, h5⟩, h6⟩
      · exact .inl ⟨h1, ms, h2, h6⟩
      · exact .inr ⟨h1, h2, h3, h4, ms, h5, h6⟩
theorem Tl_sum : ∀ {ts : List (List Int)} {ys zs : List Int}, Tl ys ts zs → (zs.length : Int) = ys.length + SumK ts ∧ ys.length ≤ zs.length ∧ ∀ t ∈ ts, 0 ≤ t.getD 2 0 ∧ t.getD 2 0 ≤ 258
  | [], ys, zs, h => by
    have h : zs = ys := h
    subst h; simp [SumK]
  | t :: ts, ys, zs, h => by
    rcases h with ⟨h1, h2⟩ | ⟨h1, h2, h3, h4, h5⟩
    · obtain ⟨k1, k2, k3⟩ := Tl_sum h2
      have : kkT t = 1 := by unfold kkT; rw [if_pos h1]
      simp only [SumK, this]
      simp only [List.length_append, List.length_cons, List.length_nil] at k1 k2
      refine ⟨by omega, by omega, fun u hu => ?_⟩
      rcases List.mem_cons.1 hu with rfl | hu
      · omega
      · exact k3 u hu
    · obtain ⟨k1, k2, k3⟩ := Tl_sum h5
      have : kkT t = t.getD 2 0 := by unfold kkT; rw [if_neg (by omega), if_neg (by omega)]
      simp only [SumK, this]
      rw [cp_len] at k1 k2
      refine ⟨by omega, by omega, fun u hu => ?_⟩
      rcases List.mem_cons.1 hu with rfl | hu
      · omega
      · exact k3 u hu
theorem Tl_exp {mo : Int} : ∀ {ts : List (List Int)} {ys zs : List Int}, Tl ys ts zs → (zs.length : Int) ≤ mo → ∀ {e : Int} {us : List Int}, ExpR 1 mo false ts ys e us → e = 0 ∧ us = zs
  | [], ys, zs, h, hm, e, us, hx => ⟨hx.1, by rw [hx.2, show zs = ys from h]⟩
  | t :: ts, ys, zs, h, hm, e, us, ⟨e1, ys1, h1, h2⟩ => by
    rcases h with ⟨g1, g2⟩ | ⟨g1, g2, g3, g4, g5⟩
    · have hl := (Tl_sum g2).2.1
      simp only [List.length_append, List.length_cons, List.length_nil] at hl
      have key : e1 = 0 ∧ ys1 = ys ++ [t.getD 0 0] := by
        rcases h1 with ⟨_, ⟨k1, k2, k3⟩ | ⟨k1, k2, k3⟩⟩ | ⟨k0, _⟩
        · omega
        · exact ⟨k2, k3⟩
        · exact absurd g1 k0
      obtain ⟨rfl, rfl⟩ := key
      rcases h2 with ⟨h2, _⟩ | ⟨_, h2⟩
      · exact absurd rfl h2
      · exact Tl_exp g2 hm h2
    · have hl := (Tl_sum g5).2.1
      rw [cp_len] at hl
      have key : e1 = 0 ∧ ys1 = cp ys 1 (t.getD 2 0).toNat := by
        rcases h1 with ⟨k0, _⟩ | ⟨_, ⟨k1, k2, k3⟩ | ⟨k1, k2, k3, k4, k5⟩ | ⟨k1, k2, k3, k4, k5, k6, k7⟩ | ⟨k1, k2, k3, k4, k5, k6, k7⟩⟩
        · omega
        · omega
        · omega
        · omega
        · rw [g3] at k7; exact ⟨k6, k7⟩
      obtain ⟨rfl, rfl⟩ := key
      rcases h2 with ⟨h2, _⟩ | ⟨_, h2⟩
      · exact absurd rfl h2
      · exact Tl_exp g5 hm h2

theorem cp1 {ys : List Int} (h : 1 ≤ ys.length) : cp ys 1 1 = ys ++ [ys.getD (ys.length - 1) 0] := by
  simp [cp, h]
theorem cp_more (d : Nat) : ∀ (n : Nat) (ys : List Int), cp ys d (n + 1) = cp (cp ys d n) d 1
  | 0, ys => rfl
  | n + 1, ys => by
    show cp _ d (n + 1) = cp (cp _ d n) d 1
    exact cp_more d n _
theorem take_more {xs : List Int} {j : Nat} (h : j < xs.length) : xs.take (j + 1) = xs.take j ++ [xs.getD j 0] := by
  rw [List.take_add_one]
  simp [List.getD, h]
/-- The tokens of a text's runs tell it. -/
theorem Tl_rr (xs : List Int) : ∀ j, j ≤ xs.length → Tl [] (rr xs j) (xs.take j)
  | 0, _ => by simp [rr, Tl]
  | j + 1, hj => by
    have ih := Tl_rr xs j (by omega)
    rw [take_more (by omega)]
    cases hn : nwR xs j
    · have hn : ¬ (j = 0 ∨ xs.getD j 0 ≠ xs.getD (j - 1) 0) := of_decide_eq_false hn
      have h1 : 0 < j := by omega
      have h2 : xs.getD j 0 = xs.getD (j - 1) 0 := by
        by_cases h : xs.getD j 0 = xs.getD (j - 1) 0
        · exact h
        · exact absurd (.inr h) hn
      have hlt : (xs.take j).length = j := by simp; omega
      have hlast : (xs.take j).getD ((xs.take j).length - 1) 0 = xs.getD j 0 := by
        rw [h2, hlt]
        simp only [List.getD, List.getElem?_take]
        rw [if_pos (by omega)]
      have hne : rr xs j ≠ [] := by
        intro h0
        rw [h0] at ih
        have ih : xs.take j = [] := ih
        rw [ih] at hlt
        simp at hlt
        omega
      obtain ⟨o, t, ho⟩ : ∃ o t, rr xs j = o ++ [t] := ⟨_, _, (List.dropLast_concat_getLast hne).symm⟩
      show Tl [] (rstep (nwR xs j) _ (rr xs j)) _
      rw [show nwR xs j = false from by simp [nwR]; exact ⟨by omega, h2⟩, ho, rstep_old]
      rw [ho] at ih
      split
      · rename_i h
        refine Tl_app.2 ⟨_, ih, .inr ⟨by decide, by decide, rfl, by omega, ?_⟩⟩
        show _ = cp _ 1 1
        rw [cp1 (by omega), hlast]
      · rename_i h
        obtain ⟨ms, k1, k2⟩ := Tl_app.1 ih
        refine Tl_app.2 ⟨_, k1, ?_⟩
        rcases k2 with ⟨k2, _⟩ | ⟨k2, k3, k4, k5, k6⟩
        · exact absurd (.inl k2) h
        · refine .inr ⟨?_, ?_, k4, k5, ?_⟩
          · show 0 < t.getD 2 0 + 1
            omega
          · show t.getD 2 0 + 1 ≤ 258
            omega
          · show _ = cp ms 1 (t.getD 2 0 + 1).toNat
            have k6 : xs.take j = cp ms 1 (t.getD 2 0).toNat := k6
            rw [show (t.getD 2 0 + 1).toNat = (t.getD 2 0).toNat + 1 by omega, cp_more, ← k6, cp1 (by omega), hlast]
    · show Tl [] (rstep (nwR xs j) _ (rr xs j)) _
      rw [hn]
      refine Tl_app.2 ⟨_, ih, .inl ⟨rfl, rfl⟩⟩
/-- Bytes that are like the one before, at once. -/
theorem rr_many {xs : List Int} {p : Nat} {o : List (List Int)} {t : List Int} (ho : rr xs p = o ++ [t]) (ht : t.getD 2 0 = 0 ∨ t.getD 2 0 = 258) :
    ∀ m, m < 258 → (∀ q, p ≤ q → q < p + (m + 1) → nwR xs q = false) → rr xs (p + (m + 1)) = rr xs p ++ [[0, 1, ((m + 1 : Nat) : Int)]]
  | 0, _, h => by
    show rstep (nwR xs p) _ (rr xs p) = _
    rw [h p (by omega) (by omega), ho, rstep_old, if_pos ht]
    rfl
  | m + 1, hm, h => by
    have ih := rr_many ho ht m (by omega) fun q h1 h2 => h q h1 (by omega)
    show rstep (nwR xs (p + (m + 1))) _ (rr xs (p + (m + 1))) = _
    rw [h _ (by omega) (by omega), ih, rstep_old, if_neg]
    · rfl
    · show ¬ (((m + 1 : Nat) : Int) = 0 ∨ ((m + 1 : Nat) : Int) = 258)
      omega
end Go.Sx
