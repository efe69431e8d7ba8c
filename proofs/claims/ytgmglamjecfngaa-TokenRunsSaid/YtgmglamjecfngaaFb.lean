/- Bytes as one number, the lowest first. -/
import Derived.Test.YtgmglamjecfngaaSxTT
set_option linter.unusedVariables false
namespace Go.Sx

/-- A row of bytes. -/
def Byt (xs : List Int) : Prop := ∀ x ∈ xs, 0 ≤ x ∧ x < 256

def V : List Int → Int
  | [] => 0
  | x :: r => x + 256 * V r

theorem pow256 (n : Nat) : (256 : Int) ^ n = 2 ^ (8 * n) := by
  rw [Int.pow_mul]; rfl
theorem pow_pos2 (n : Nat) : (0 : Int) < 2 ^ n := Int.pow_pos (by decide)

theorem V_app : ∀ (xs ys : List Int), V (xs ++ ys) = V xs + 2 ^ (8 * xs.length) * V ys
  | [], ys => by simp [V]
  | x :: r, ys => by
    have : (2 : Int) ^ (8 * (r.length + 1)) = 256 * 2 ^ (8 * r.length) := by
      rw [show 8 * (r.length + 1) = 8 + 8 * r.length by omega, Int.pow_add]; rfl
    simp only [List.cons_append, V, List.length_cons, this, V_app r ys]
    rw [Int.mul_add, Int.mul_assoc]; omega

theorem V_bnd : ∀ {xs : List Int}, Byt xs → 0 ≤ V xs ∧ V xs < 2 ^ (8 * xs.length)
  | [], _ => by simp [V]
  | x :: r, h => by
    obtain ⟨h1, h2⟩ := V_bnd (xs := r) fun y hy => h y (List.mem_cons_of_mem _ hy)
    obtain ⟨h3, h4⟩ := h x (List.mem_cons_self ..)
    have : (2 : Int) ^ (8 * (r.length + 1)) = 256 * 2 ^ (8 * r.length) := by
      rw [show 8 * (r.length + 1) = 8 + 8 * r.length by omega, Int.pow_add]; rfl
    simp only [V, List.length_cons, this]
    omega

theorem Byt.take {xs : List Int} (h : Byt xs) (n : Nat) : Byt (xs.take n) := fun x hx => h x (List.mem_of_mem_take hx)
theorem Byt.drop {xs : List Int} (h : Byt xs) (n : Nat) : Byt (xs.drop n) := fun x hx => h x (List.mem_of_mem_drop hx)
theorem Byt.get {xs : List Int} (h : Byt xs) {i : Nat} (hi : i < xs.length) : 0 ≤ xs.getD i 0 ∧ xs.getD i 0 < 256 := by
  have : xs.getD i 0 = xs[i] := by simp [List.getD, hi]
  rw [this]; exact h _ (List.getElem_mem hi)

theorem V_take_succ {xs : List Int} {i : Nat} (hi : i < xs.length) : V (xs.take (i + 1)) = V (xs.take i) + 2 ^ (8 * i) * xs.getD i 0 := by
  have e : xs.take (i + 1) = xs.take i ++ [xs.getD i 0] := by
    rw [List.take_add_one]; simp [List.getD, hi]
  rw [e, V_app]
  simp only [V, List.length_take, Nat.min_eq_left (Nat.le_of_lt hi), Int.mul_zero, Int.add_zero]

theorem V_take {xs : List Int} (h : Byt xs) {i : Nat} (hi : i ≤ xs.length) : V xs % 2 ^ (8 * i) = V (xs.take i) := by
  have e : V xs = V (xs.take i) + 2 ^ (8 * i) * V (xs.drop i) := by
    conv => lhs; rw [← List.take_append_drop i xs]
    rw [V_app, List.length_take, Nat.min_eq_left hi]
  have hb := V_bnd (h.take i)
  rw [List.length_take, Nat.min_eq_left hi] at hb
  rw [e, Int.add_mul_emod_self_left, Int.emod_eq_of_lt hb.1 hb.2]

/-- A number's bits from a place on, some of them. -/
def cut (v : Int) (p n : Nat) : Int := v / 2 ^ p % 2 ^ n

theorem cut_nonneg {v : Int} (h : 0 ≤ v) (p n : Nat) : 0 ≤ cut v p n := Int.emod_nonneg _ (Int.ne_of_gt (pow_pos2 n))
theorem cut_lt (v : Int) (p n : Nat) : cut v p n < 2 ^ n := Int.emod_lt_of_pos _ (pow_pos2 n)

theorem div_mod_pow (v : Int) (p q : Nat) : v % 2 ^ (p + q) / 2 ^ p = cut v p q := by
  unfold cut
  have hp := pow_pos2 p
  have hq := pow_pos2 q
  rw [Int.pow_add]
  -- v = v % (P*Q) + P*Q*k
  have e1 : v = v % (2 ^ p * 2 ^ q) + 2 ^ p * 2 ^ q * (v / (2 ^ p * 2 ^ q)) := (Int.emod_add_mul_ediv v _).symm
  have hr0 : 0 ≤ v % (2 ^ p * 2 ^ q) := Int.emod_nonneg _ (Int.ne_of_gt (Int.mul_pos hp hq))
  have hr1 : v % (2 ^ p * 2 ^ q) < 2 ^ p * 2 ^ q := Int.emod_lt_of_pos _ (Int.mul_pos hp hq)
  have e2 : v / 2 ^ p = v % (2 ^ p * 2 ^ q) / 2 ^ p + 2 ^ q * (v / (2 ^ p * 2 ^ q)) := by
    conv => lhs; rw [e1]
    rw [Int.mul_assoc, Int.add_mul_ediv_left _ _ (Int.ne_of_gt hp)]
  rw [e2, Int.add_mul_emod_self_left, Int.emod_eq_of_lt (Int.ediv_nonneg hr0 (Int.le_of_lt hp)) (Int.ediv_lt_of_lt_mul hp (by rw [Int.mul_comm (2 ^ q)]; exact hr1))]

/-- The bits that the reader has in hand. -/
theorem hold_eq {xs : List Int} (h : Byt xs) {a b p : Nat} (ha : a ≤ xs.length) (e : 8 * a = p + b) : V (xs.take a) / 2 ^ p = cut (V xs) p b := by
  rw [← V_take h ha, e, div_mod_pow]

theorem cut_succ {xs : List Int} (h : Byt xs) {a b p : Nat} (ha : a < xs.length) (e : 8 * a = p + b) : cut (V xs) p (b + 8) = cut (V xs) p b + 2 ^ b * xs.getD a 0 := by
  rw [← hold_eq h (Nat.succ_le_of_lt ha) (p := p) (b := b + 8) (by omega), ← hold_eq h (Nat.le_of_lt ha) e, V_take_succ ha, e, Int.pow_add, Int.mul_assoc, Int.add_mul_ediv_left _ _ (Int.ne_of_gt (pow_pos2 p))]

theorem cut_cut (v : Int) (p b n : Nat) (hn : n ≤ b) : cut v p b % 2 ^ n = cut v p n := by
  unfold cut
  obtain ⟨k, rfl⟩ : ∃ k, b = n + k := ⟨b - n, by omega⟩
  rw [Int.pow_add, Int.emod_emod_of_dvd _ ⟨_, rfl⟩]
theorem cut_drop (v : Int) (p b n : Nat) (hn : n ≤ b) : cut v p b / 2 ^ n = cut v (p + n) (b - n) := by
  obtain ⟨k, rfl⟩ : ∃ k, b = n + k := ⟨b - n, by omega⟩
  rw [Nat.add_sub_cancel_left]
  have : cut v p (n + k) = v / 2 ^ p % 2 ^ (n + k) := rfl
  rw [this, div_mod_pow]
  unfold cut
  rw [Int.pow_add, Int.ediv_ediv_of_nonneg (Int.le_of_lt (pow_pos2 p))]

end Go.Sx
