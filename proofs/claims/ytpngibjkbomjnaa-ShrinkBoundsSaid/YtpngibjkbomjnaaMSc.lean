/- The executor: its words, its laws, calls of contracts. -/
import Derived.Test.YtpngibjkbomjnaaMSb
/- More helpers at the walk: windows of rows of structs, rows put behind one another. -/
set_option linter.unusedVariables false
set_option linter.unusedSimpArgs false
namespace Go.Sx

section
variable {A : Ar} (hA : A = R)
include hA
theorem fitOf {n k : Nat} (h : n * k ≤ room) : A.fit n k := by rw [fitA hA]; exact h
theorem RWs.lenA {ks : List FK} {rs : List (List Int)} {cs : List SV} (h : RWs ks rs cs) {n m : Nat} (hm : ks.length = m) (hn : n = rs.length) : A.len cs n m := by
  subst hA hm hn
  exact h.len
theorem ints_lenA {k : IntKind} {xs : List Int} {n : Nat} (hn : n = xs.length) : A.len (A.ints k xs) n 1 := by
  subst hA
  show (R.ints k xs).length = n * 1
  rw [R_ints_length]; omega
/-- A window of rows. -/
theorem RWs.win {ks : List FK} {rs : List (List Int)} {cs : List SV} (h : RWs ks rs cs) {m : Nat} (hm : ks.length = m) {lo hi nn : Int} {κ : List SV → Prop} (h0 : 0 ≤ lo ∧ lo ≤ hi ∧ hi ≤ nn) (h3 : hi.toNat ≤ rs.length)
    (hk : ∀ l, RWs ks ((rs.drop lo.toNat).take (hi - lo).toNat) l → κ l) :
    A.ge0 lo ∧ A.leI lo hi ∧ A.leI hi nn ∧ bindO.match_1 (fun _ => Prop) (sub1 cs (A.ix 0 lo m) (A.mul (A.cnt hi lo) m)) (fun l => κ l) (fun _ => False) := by
  refine ⟨by rw [ge0A hA]; exact h0.1, by rw [leIA hA]; exact h0.2.1, by rw [leIA hA]; exact h0.2.2, ?_⟩
  subst hA hm
  have hp : lo.toNat + (hi - lo).toNat = hi.toNat := by omega
  have hle := Nat.mul_le_mul_right ks.length h3
  have hs : sub1 cs (0 + lo.toNat * ks.length) ((hi - lo).toNat * ks.length) = some (RW ks ((rs.drop lo.toNat).take (hi - lo).toNat)) := by
    rw [Nat.zero_add, sub1_of (by rw [h.len, ← Nat.add_mul, hp]; exact hle), h.eq]
    have e1 : rs = rs.take lo.toNat ++ rs.drop lo.toNat := (List.take_append_drop ..).symm
    have l1 : (rs.take lo.toNat).length = lo.toNat := by rw [List.length_take]; omega
    have e2 : RW ks rs = RW ks (rs.take lo.toNat) ++ RW ks (rs.drop lo.toNat) := by rw [← RW_app, List.take_append_drop]
    have e3 : (RW ks rs).drop (lo.toNat * ks.length) = RW ks (rs.drop lo.toNat) := by
      have h5 := List.drop_left (l₁ := RW ks (rs.take lo.toNat)) (l₂ := RW ks (rs.drop lo.toNat))
      rw [RW_len, l1, ← e2] at h5
      exact h5
    have l4 : ((rs.drop lo.toNat).take (hi - lo).toNat).length = (hi - lo).toNat := by rw [List.length_take, List.length_drop]; omega
    have e4 : RW ks (rs.drop lo.toNat) = RW ks ((rs.drop lo.toNat).take (hi - lo).toNat) ++ RW ks ((rs.drop lo.toNat).drop (hi - lo).toNat) := by rw [← RW_app, List.take_append_drop]
    have h6 := List.take_left (l₁ := RW ks ((rs.drop lo.toNat).take (hi - lo).toNat)) (l₂ := RW ks ((rs.drop lo.toNat).drop (hi - lo).toNat))
    rw [RW_len, l4, ← e4] at h6
    rw [e3, h6]
  exact bindO_some hs (hk _ ⟨rfl, h.num⟩)
/-- A part of an element is read. -/
theorem RWs.subF {ks : List FK} {rs : List (List Int)} {cs : List SV} (h : RWs ks rs cs) {m n : Nat} {i : Int} (j w : Nat) {κ : List SV → Prop} (hm : ks.length = m) (hj : j + w ≤ m) (h0 : 0 ≤ i ∧ i < n) (hi : i.toNat < rs.length)
    (hk : ∀ l, l = ((mkRow ks (rs.getD i.toNat [])).drop j).take w → κ l) :
    A.inr i n ∧ bindO.match_1 (fun _ => Prop) (sub1 cs (A.ix 0 i m + j) w) (fun l => κ l) (fun _ => False) := by
  refine ⟨by rw [inrA hA]; exact h0, bindO_some (a := ((mkRow ks (rs.getD i.toNat [])).drop j).take w) ?_ (hk _ rfl)⟩
  subst hA hm
  show sub1 cs (0 + i.toNat * ks.length + j) w = _
  have hle : (i.toNat + 1) * ks.length ≤ rs.length * ks.length := Nat.mul_le_mul_right _ hi
  rw [Nat.add_mul, Nat.one_mul] at hle
  rw [Nat.zero_add, sub1_of (by rw [h.len]; omega), h.eq]
  have h1 := RW_at ks rs i.toNat hi
  rw [← h1, List.drop_take, List.drop_drop, List.take_take, Nat.min_eq_left (by omega)]
end
theorem setAll_app : ∀ (f : List Lk) (H E sH : List Ck), H.length = f.length → setAll f (H ++ E) sH = setAll f H sH
  | [], [], E, sH, _ => by cases E <;> simp [setAll]
  | [], _ :: _, _, _, h => by simp at h
  | _ :: _, [], _, _, h => by simp at h
  | (j, o, true) :: f, c :: H, E, sH, h => by
    simp only [List.cons_append, setAll]
    exact setAll_app f H E _ (by simpa using h)
  | (j, o, false) :: f, c :: H, E, sH, h => by
    simp only [List.cons_append, setAll]
    exact setAll_app f H E _ (by simpa using h)
/-- New chunks behind those that were handed over. -/
theorem backH_app {g : Nat → Nat × Nat} {f : List Lk} {H E sH : List Ck} (h : H.length = f.length) : backH g f (H ++ E) sH = backH g f H sH ++ E.map (renCk g) := by
  unfold backH
  rw [List.map_append, setAll_app f _ _ sH (by simpa using h)]
  have h1 : (H.map (renCk g)).length = f.length := by simpa using h
  rw [List.drop_append_of_le_length (by omega), List.drop_of_length_le (by omega), List.nil_append, List.append_nil]
theorem set_id {j : Nat} {c : Ck} {H : List Ck} (hc : H[j]? = some c) : H.set j c = H := by
  obtain ⟨hj, rfl⟩ := List.getElem?_eq_some_iff.1 hc
  exact List.set_getElem_self hj
theorem RWs.app2 {ks : List FK} {rs rs' : List (List Int)} {cs cs' : List SV} (h : RWs ks rs cs) (h' : RWs ks rs' cs') : RWs ks (rs ++ rs') (apd cs cs') := ⟨by rw [apd_eq, h.eq, h'.eq, RW_app], h.num⟩
end Go.Sx
