/- Contracts of functions, and what is plain about them: texts put together. -/
import Derived.Test.YtnebigjgnfbcjaaDoorMCInflateReadse
/- inflate: what is told, plainly: the model. -/
set_option maxRecDepth 100000
set_option maxHeartbeats 4000000
set_option linter.unusedVariables false
set_option linter.unusedSimpArgs false
namespace Go.Sx
open Go.Proofs.Tryd

def up8i (p : Nat) : Nat := (p + 7) / 8 * 8
/-- Bytes as they are. -/
def plL (xs : List Int) (mo : Int) : Nat → Nat → List Int → Except Int (Nat × List Int)
  | 0, p, o => .ok (p, o)
  | n + 1, p, o => if 8 * xs.length < p + 8 then .error 3 else if (o.length : Int) = mo then .error 9 else plL xs mo n (p + 8) (o ++ [cut (V xs) p 8])
def plM (xs : List Int) (mo : Int) (p : Nat) (o : List Int) : Except Int (Nat × List Int × Int) :=
  if 8 * xs.length < up8i p + 32 then .error 3
  else if cut (V xs) (up8i p) 16 + cut (V xs) (up8i p + 16) 16 ≠ 65535 then .error 4
  else match plL xs mo (cut (V xs) (up8i p) 16).toNat (up8i p + 32) o with
    | .error e => .error e
    | .ok (p2, o2) => .ok (p2, o2, cut (V xs) (up8i p) 16)
def lenF (code : Int) (large : Bool) : Option (Int × Nat) :=
  if code < 257 ∨ 285 < code then none else if code = 285 then (if large = true then some (3, 16) else some (258, 0)) else some (bL (code - 257).toNat, eL (code - 257).toNat)
def distF (code : Int) (large : Bool) : Option (Int × Nat) :=
  if code < 0 ∨ 31 < code ∨ (29 < code ∧ large = false) then none else some (bD code.toNat, eD code.toNat)
/-- A copy behind the code of its length. -/
noncomputable def cpM (xs : List Int) (wd mo : Int) (large : Bool) (dl : List Int) (p : Nat) (o : List Int) (code : Int) : Except Int (Nat × List Int) :=
  match lenF code large with
  | none => .error 7
  | some (a, k) =>
    if 8 * xs.length < p + k then .error 3
    else if (nxM dl xs (p + k)).2.1 ≠ 0 then .error (nxM dl xs (p + k)).2.1
    else match distF (nxM dl xs (p + k)).1 large with
      | none => .error 7
      | some (d, k2) =>
        if 8 * xs.length < (nxM dl xs (p + k)).2.2 + k2 then .error 3
        else if wd < d + cut (V xs) (nxM dl xs (p + k)).2.2 k2 ∨ (o.length : Int) < d + cut (V xs) (nxM dl xs (p + k)).2.2 k2 then .error 8
        else if mo - o.length < a + cut (V xs) p k then .error 9
        else .ok ((nxM dl xs (p + k)).2.2 + k2, cp o (d + cut (V xs) (nxM dl xs (p + k)).2.2 k2).toNat (a + cut (V xs) p k).toNat)
/-- A block's words. -/
noncomputable def wdM (xs : List Int) (wd mo : Int) (large : Bool) (ll dl : List Int) : Nat → Nat → List Int → Int → Except Int (Nat × List Int × Int)
  | 0, _, _, _ => .error 0
  | f + 1, p, o, st =>
    if (nxM ll xs p).2.1 ≠ 0 then .error (nxM ll xs p).2.1
    else if (nxM ll xs p).1 = 256 then .ok ((nxM ll xs p).2.2, o, st + 1)
    else if (nxM ll xs p).1 < 256 then (if (o.length : Int) = mo then .error 9 else wdM xs wd mo large ll dl f (nxM ll xs p).2.2 (o ++ [(nxM ll xs p).1]) (st + 1))
    else match cpM xs wd mo large dl (nxM ll xs p).2.2 o (nxM ll xs p).1 with
      | .error e => .error e
      | .ok (p2, o2) => wdM xs wd mo large ll dl f p2 o2 (st + 1)
def fixL : List Int := List.replicate 144 8 ++ List.replicate 112 9 ++ List.replicate 24 7 ++ List.replicate 8 8
def fixD : List Int := List.replicate 32 5
/-- A block; whether it is the last. -/
noncomputable def blM (xs : List Int) (wd mo : Int) (large : Bool) (p : Nat) (o : List Int) (st : Int) : Except Int (Bool × Nat × List Int × Int) :=
  if 8 * xs.length < p + 3 then .error 3
  else if cut (V xs) (p + 1) 2 = 0 then (match plM xs mo (p + 3) o with
    | .error e => .error e
    | .ok (p2, o2, n) => .ok (decide (cut (V xs) p 1 = 1), p2, o2, st + 1 + n))
  else if cut (V xs) (p + 1) 2 = 3 then .error 4
  else match (if cut (V xs) (p + 1) 2 = 1 then Except.ok (fixL, fixD, p + 3) else rdD xs (p + 3) large) with
    | .error e => .error e
    | .ok (ll, dl, p2) => match wdM xs wd mo large ll dl (8 * xs.length + 1) p2 o (st + 1) with
      | .error e => .error e
      | .ok (p3, o3, st3) => .ok (decide (cut (V xs) p 1 = 1), p3, o3, st3)
noncomputable def dcM (xs : List Int) (wd mo : Int) (large : Bool) : Nat → Nat → List Int → Int → Except Int (Nat × List Int × Int)
  | 0, _, _, _ => .error 0
  | f + 1, p, o, st => match blM xs wd mo large p o st with
    | .error e => .error e
    | .ok (last, p2, o2, st2) => if last = true then .ok (p2, o2, st2) else dcM xs wd mo large f p2 o2 st2
def wdO (large : Bool) : Int := if large then 65536 else 32768
/-- All that bits tell, in how many steps; or why nothing. -/
noncomputable def infM (xs : List Int) (large : Bool) (size : Int) : List Int × Int × Int :=
  if size < 0 then ([], 0, 2) else match dcM xs (wdO large) size large (8 * xs.length + 1) 0 [] 0 with
  | .error e => ([], 0, e)
  | .ok (p, o, st) => if (o.length : Int) ≠ size then ([], 0, 9) else if 8 ≤ 8 * xs.length - p then ([], 0, 5) else (o, st, 0)

/-! ### Facts -/
theorem lenBd : ∀ j : Fin 28, 3 ≤ bL j.1 ∧ bL j.1 ≤ 300 ∧ eL j.1 ≤ 5 := by decide
theorem distBd : ∀ j : Fin 32, 1 ≤ bD j.1 ∧ bD j.1 ≤ 65536 ∧ eD j.1 ≤ 14 := by decide
theorem lenF_of {code : Int} {large : Bool} {a b : Int} {ok : Bool} (h : LenR code large a b ok) : (ok = false ∧ lenF code large = none) ∨ (ok = true ∧ ∃ k : Nat, b = k ∧ lenF code large = some (a, k) ∧ 3 ≤ a ∧ a ≤ 300 ∧ k ≤ 16) := by
  unfold lenF
  rcases h with ⟨h1, h2, h3, h4⟩ | ⟨h1, h2, h3, h4, h5⟩ | ⟨h1, h2, h3, h4, h5⟩ | ⟨j, h1, h2, h3, h4, h5⟩
  · exact .inl ⟨h4, if_pos h1⟩
  · exact .inr ⟨h5, 16, h4, by rw [if_neg (by omega), if_pos h1, if_pos h2, h3], by omega, by omega, by omega⟩
  · exact .inr ⟨h5, 0, h4, by rw [if_neg (by omega), if_pos h1, if_neg (by rw [h2]; simp), h3], by omega, by omega, by omega⟩
  · have hb := lenBd ⟨j, h2⟩
    have e : (code - 257).toNat = j := by omega
    exact .inr ⟨h5, eL j, h4, by rw [if_neg (by omega), if_neg (by omega), e, h3], by rw [h3]; exact hb.1, by rw [h3]; exact hb.2.1, by have : eL j ≤ 5 := hb.2.2; omega⟩
theorem distF_of {code : Int} {large : Bool} {a b : Int} {ok : Bool} (h : DistR code large a b ok) : (ok = false ∧ distF code large = none) ∨ (ok = true ∧ ∃ k : Nat, b = k ∧ distF code large = some (a, k) ∧ 1 ≤ a ∧ a ≤ 65536 ∧ k ≤ 14) := by
  unfold distF
  rcases h with ⟨h1, h2, h3, h4⟩ | ⟨j, h1, h2, h3, h4, h5, h6⟩
  · exact .inl ⟨h4, if_pos h1⟩
  · have hb := distBd ⟨j, h2⟩
    have e : code.toNat = j := by omega
    refine .inr ⟨h6, eD j, h5, ?_, by rw [h4]; exact hb.1, by rw [h4]; exact hb.2.1, hb.2.2⟩
    rw [if_neg, e, h4]
    rintro (h | h | ⟨h, k⟩)
    · omega
    · omega
    · rcases h3 with h3 | h3
      · omega
      · rw [h3] at k; cases k
/-- How much there may be. -/
def BB (xs : List Int) (mo : Int) : Prop := 0 ≤ mo ∧ mo ≤ 9223372036854775807 ∧ (mo ≤ 10000000000 ∨ xs.length ≤ 100000)
def OB (xs : List Int) (mo : Int) (p : Nat) (o : List Int) : Prop := (o.length : Int) ≤ mo ∧ (o.length : Int) ≤ 70000 * p ∧ p ≤ 8 * xs.length
theorem OB.len {xs : List Int} {mo : Int} {p : Nat} {o : List Int} (h : OB xs mo p o) (hB : BB xs mo) : o.length ≤ 60000000000 := by
  obtain ⟨h1, h2, h3⟩ := h
  obtain ⟨b1, b2, b3⟩ := hB
  omega
theorem OB.mq {xs : List Int} {mo : Int} {p : Nat} {o : List Int} (h : OB xs mo p o) (hB : BB xs mo) {n : Int} (hn : n ≤ 70000) : MQ mo n o := by
  have hl := h.len hB
  obtain ⟨h1, h2, h3⟩ := h
  obtain ⟨b1, b2, b3⟩ := hB
  exact ⟨b1, b2, by omega, fun _ => by omega⟩
theorem pow16 {k : Nat} (h : k ≤ 16) : (2 : Int) ^ k ≤ 65536 := by
  have : (2 : Nat) ^ k ≤ 2 ^ 16 := Nat.pow_le_pow_right (by decide) h
  have e : ((2 ^ k : Nat) : Int) = (2 : Int) ^ k := by push_cast; rfl
  have e2 : (2 : Nat) ^ 16 = 65536 := rfl
  omega
end Go.Sx

/- inflate: several: the contract. -/
set_option maxRecDepth 100000
set_option maxHeartbeats 4000000
set_option linter.unusedVariables false
set_option linter.unusedSimpArgs false
namespace Go.Sx
open Go.Proofs.Tryd

/-- What a copy comes to. -/
def CpR (xs : List Int) (wd mo : Int) (large : Bool) (dl : List Int) (p : Nat) (o : List Int) (code e : Int) (p' : Nat) (o' : List Int) (er' : Int) : Prop :=
  (e ≠ 0 ∧ cpM xs wd mo large dl p o code = .error e) ∨ (e = 0 ∧ er' = 0 ∧ OB xs mo p' o' ∧ p + 1 ≤ p' ∧ cpM xs wd mo large dl p o code = .ok (p', o'))
theorem CpQ_fin {xs : List Int} {wd mo : Int} {large : Bool} {dl : List Int} {p p' : Nat} {o ys : List Int} {code nn dd e : Int} {D : Except Int (Nat × List Int)}
    (hDD : D = cpM xs wd mo large dl p o code) (hd0 : D = if wd < dd ∨ (o.length : Int) < dd then .error 8 else if mo - o.length < nn then .error 9 else .ok (p', cp o dd.toNat nn.toNat))
    (hO : OB xs mo p o) (hp : p + 1 ≤ p') (hp2 : p' ≤ 8 * xs.length) (hn : 0 ≤ nn ∧ nn ≤ 70000) (hd : 1 ≤ dd) (h : CpQ wd mo false o dd nn e ys) : CpR xs wd mo large dl p o code e p' ys 0 := by
  unfold CpR
  rw [← hDD]
  rcases h with h | ⟨h1, h2, h3, h4, h5⟩ | ⟨h1, h2, h3, h4, h5, h6, h7⟩ | ⟨h1, h2, h3, h4, h5, h6, h7⟩
  · omega
  · have h3 : wd < dd ∨ (o.length : Int) < dd := by
      rcases h3 with h3 | h3
      · exact .inl h3
      · exact .inr h3.1
    rw [if_pos h3] at hd0
    exact .inl ⟨by omega, by rw [hd0, h4]⟩
  · have h4 : dd ≤ (o.length : Int) := by
      rcases h4 with h4 | h4
      · exact h4
      · cases h4
    rw [if_neg (by omega), if_pos h5] at hd0
    exact .inl ⟨by omega, by rw [hd0, h6]⟩
  · have h4 : dd ≤ (o.length : Int) := by
      rcases h4 with h4 | h4
      · exact h4
      · cases h4
    rw [if_neg (by omega), if_neg (by omega)] at hd0
    refine .inr ⟨h6, rfl, ?_, hp, by rw [hd0, h7]⟩
    obtain ⟨o1, o2, o3⟩ := hO
    have hl := cp_len dd.toNat nn.toNat o
    rw [← h7] at hl
    exact ⟨by omega, by omega, hp2⟩
theorem s_several (xs : List Int) (m p a b k ks : Nat) (at_ hold nb wd mo stI code lg : Int) (large : Bool) (o dl sy tb : List Int) (dc : List SV) (hx : RX xs m) (hF : RF xs p a b at_ hold nb) (hk : k = o.length) (hw : 0 < wd) (hB : BB xs mo) (hO : OB xs mo p o)
    (hQ : DecQ dl lg sy tb) (hD : IsDC dc true lg (cvec dl) (fvec (cvec dl)) (.lst 7 ks) tb) (hks : ks = sy.length) :
    Spec prog 75 [.ptr 0 0, .int .i64 code] [.vw [.ptr 1 0, .ptr 3 0, .bool large, .int .i64 stI, .ptr 5 0, .ptr 6 0], .box 101 [.lst 2 m, .int .i64 at_, .int .u64 hold, .int .i64 nb, .int .i64 0, .bool true], .lst 5 1 (R.ints .u8 xs), .box 98 [.int .i64 wd, .int .i64 mo, .bool false, .lst 4 k], .lst 5 1 (R.ints .u8 o), .vw [], .vw dc, .vw (R.ints .i64 sy)]
    (fun r H => ∃ (a b p' k' : Nat) (at_ hold nb er' e : Int) (o' : List Int), RF xs p' a b at_ hold nb ∧ CpR xs wd mo large dl p o code e p' o' er' ∧ k' = o'.length ∧ r = .int .i64 e ∧
      H = [.vw [.ptr 1 0, .ptr 3 0, .bool large, .int .i64 stI, .ptr 5 0, .ptr 6 0], .box 101 [.lst 2 m, .int .i64 at_, .int .u64 hold, .int .i64 nb, .int .i64 er', .bool true], .lst 5 1 (R.ints .u8 xs), .box 98 [.int .i64 wd, .int .i64 mo, .bool false, .lst 8 k'], .gone, .vw [], .vw dc, .vw (R.ints .i64 sy), .lst 5 1 (R.ints .u8 o')]) := by
  refine Spec_of_kF (D := fun i => if i = 8 then (13, [1,2]) else (0, [])) (ks := [0, 1, 4, 5, 6, 7, 8, 9, 10, 11, 12]) tok mixed (fn := f75) rfl rfl rfl (by kernel_rfl) (N := 93) rfl (rs := [.tmp 4]) rfl (Nat.le_of_ble_eq_true rfl) fun A C Kp E ag L q hA hC hK hE hag hL hq => ?_
  rw [← hA]
  obtain ⟨D, hDD⟩ : ∃ D, D = cpM xs wd mo large dl p o code := ⟨_, rfl⟩
  have hd0 := hDD
  unfold cpM at hd0
  have hnt : A.not true = false := by rw [notA hA]; rfl
  have hnf : A.not false = true := by rw [notA hA]; rfl
  have hpl := hF.le
  cbv
  (try simp only [ncast] at *)
  refine call_length hC fun la bI ok hL => ?_
  rcases lenF_of hL with ⟨rfl, hLF⟩ | ⟨rfl, n1, hbI, hLF, la1, la2, hn1⟩
  · rw [hLF] at hd0
    dsimp only at hd0
    cbv
    (try simp only [ncast] at *)
    simp only [hnf]
    cbv
    (try simp only [ncast] at *)
    subst hA hq
    have hrd : cpM xs wd mo large dl p o code = .error 7 := by rw [← hDD]; exact hd0
    refine Fin_of ⟨[(4, .int .i64 7)], [.vw [.ptr 1 0, .ptr 3 0, .bool large, .int .i64 stI, .ptr 5 0, .ptr 6 0], .box 101 [.lst 2 m, .int .i64 at_, .int .u64 hold, .int .i64 nb, .int .i64 0, .bool true], .lst 5 1 (R.ints .u8 xs), .box 98 [.int .i64 wd, .int .i64 mo, .bool false, .lst 8 k], .gone, .vw [], .vw dc, .vw (R.ints .i64 sy), .lst 5 1 (R.ints .u8 o)]⟩ ?_ ⟨a, b, p, k, at_, hold, nb, 0, 7, o, hF, .inl ⟨by omega, hrd⟩, hk, rfl, rfl⟩
    have dc0 : ∀ (N : Nat) (H1 : List Ck), 7 < N → H1[6]? = some (.vw dc) → subC 8 N [0, 1, 2, 3, 4, 5, 6, 7, 4] H1 6 6 (.vw dc) := fun N H1 hN h => dc_v hD hN rfl h
    exact Sc [0, 1, 2, 3, 4, 5, 6, 7, 4] (by repeat' (first | exact dc0 _ _ (Nat.le_of_ble_eq_true rfl) rfl | exact trivial | exact fun _ => rfl | exact fun h => absurd h (by simp) | exact subC_ints rfl | refine And.intro ?_ ?_ | rfl | (simp [subH_nil, hLts, hLt, renCk, renC, sg, Ck.cells, R_ints_ren, R_ints_hLts]; done)))
  · rw [hLF] at hd0
    dsimp only at hd0
    cbv
    (try simp only [ncast] at *)
    simp only [hnt]
    cbv
    (try simp only [ncast] at *)
    refine call_bits hC hA (hb := 1) (hr := 2) (n := bI) hx hF (by decide) rfl rfl fun a1 b1 p1 at1 hold1 nb1 er1 z hF1 hB1 => ?_
    have e1 : bI.toNat = n1 := by omega
    rcases bits0 rfl (by omega) hB1 with ⟨h1, h2, h3, h4⟩ | ⟨h1, h2, h3, h4⟩
    · subst h3
      rw [e1] at h1
      rw [if_pos (by omega)] at hd0
      cbv
      (try simp only [ncast] at *)
      refine call_err hC (hb := 1) (hr := 2) rfl (by show 2 < 8; omega) ?_
      cbv
      (try simp only [ncast] at *)
      refine ifT (by simp only [neqA hA]; simp) fun h => ?_
      (try rw [h]); clear h
      cbv
      (try simp only [ncast] at *)
      subst hA hq
      have hrd : cpM xs wd mo large dl p o code = .error 3 := by rw [← hDD]; exact hd0
      refine Fin_of ⟨[(4, .int .i64 3)], [.vw [.ptr 1 0, .ptr 3 0, .bool large, .int .i64 stI, .ptr 5 0, .ptr 6 0], .box 101 [.lst 2 m, .int .i64 at1, .int .u64 hold1, .int .i64 nb1, .int .i64 3, .bool true], .lst 5 1 (R.ints .u8 xs), .box 98 [.int .i64 wd, .int .i64 mo, .bool false, .lst 8 k], .gone, .vw [], .vw dc, .vw (R.ints .i64 sy), .lst 5 1 (R.ints .u8 o)]⟩ ?_ ⟨a1, b1, p1, k, at1, hold1, nb1, 3, 3, o, hF1, .inl ⟨by omega, hrd⟩, hk, rfl, rfl⟩
      have dc0 : ∀ (N : Nat) (H1 : List Ck), 7 < N → H1[6]? = some (.vw dc) → subC 8 N [0, 1, 2, 3, 4, 5, 6, 7, 4] H1 6 6 (.vw dc) := fun N H1 hN h => dc_v hD hN rfl h
      exact Sc [0, 1, 2, 3, 4, 5, 6, 7, 4] (by repeat' (first | exact dc0 _ _ (Nat.le_of_ble_eq_true rfl) rfl | exact trivial | exact fun _ => rfl | exact fun h => absurd h (by simp) | exact subC_ints rfl | refine And.intro ?_ ?_ | rfl | (simp [subH_nil, hLts, hLt, renCk, renC, sg, Ck.cells, R_ints_ren, R_ints_hLts]; done)))
    · subst h3
      rw [e1] at h1 h2 h4
      rw [if_neg (by omega), ← h2, ← h4] at hd0
      have hzb := cut_b (V xs) p (n := n1)
      have hpw := pow16 (show n1 ≤ 16 by omega)
      rw [← h2] at hzb
      clear hB1 h2
      obtain ⟨nn, hnn⟩ : ∃ v, v = la + z := ⟨_, rfl⟩
      rw [← hnn] at hd0
      have w1 : A.wrap .i64 z = z := by rw [wrapA hA, wrap64 (by omega)]
      have x1 : A.bin .add .i64 la z = nn := by rw [addA hA, wrap64 (by omega), hnn]
      cbv
      (try simp only [ncast] at *)
      simp only [w1, x1]
      refine call_err hC (hb := 1) (hr := 2) rfl (by show 2 < 8; omega) ?_
      cbv
      (try simp only [ncast] at *)
      refine ifF (by simp only [neqA hA]; simp) fun h => ?_
      (try rw [h]); clear h
      cbv
      (try simp only [ncast] at *)
      refine call_cnext hC hA (hd := 6) (hs := 7) (hb := 1) (hr := 2) hQ hD hks hx hF1 (by decide) (cells_vwD rfl hD.len) (cells_vwA hA rfl hks) rfl rfl fun a2 b2 p2 at2 hold2 nb2 y e hF2 hN => ?_
      rw [hQ.long] at hN
      have hnx := nxM_of hQ.lens hN
      rw [hnx] at hd0
      dsimp only at hd0
      have hok := NextQ_ok hQ.lens hN
      clear hN hF1
      cbv
      (try simp only [ncast] at *)
      refine ifB_intro (fun h => ?_) (fun h => ?_)
      · have he := h
        (try simp only [wA hA] at he)
        (try rw [h]); clear h
        cbv
        (try simp only [ncast] at *)
        rw [if_pos he] at hd0
        subst hA hq
        have hrd : cpM xs wd mo large dl p o code = .error e := by rw [← hDD]; exact hd0
        refine Fin_of ⟨[(4, .int .i64 e)], [.vw [.ptr 1 0, .ptr 3 0, .bool large, .int .i64 stI, .ptr 5 0, .ptr 6 0], .box 101 [.lst 2 m, .int .i64 at2, .int .u64 hold2, .int .i64 nb2, .int .i64 0, .bool true], .lst 5 1 (R.ints .u8 xs), .box 98 [.int .i64 wd, .int .i64 mo, .bool false, .lst 8 k], .gone, .vw [], .vw dc, .vw (R.ints .i64 sy), .lst 5 1 (R.ints .u8 o)]⟩ ?_ ⟨a2, b2, p2, k, at2, hold2, nb2, 0, e, o, hF2, .inl ⟨by omega, hrd⟩, hk, rfl, rfl⟩
        have dc0 : ∀ (N : Nat) (H1 : List Ck), 7 < N → H1[6]? = some (.vw dc) → subC 8 N [0, 1, 2, 3, 4, 5, 6, 7, 4] H1 6 6 (.vw dc) := fun N H1 hN h => dc_v hD hN rfl h
        exact Sc [0, 1, 2, 3, 4, 5, 6, 7, 4] (by repeat' (first | exact dc0 _ _ (Nat.le_of_ble_eq_true rfl) rfl | exact trivial | exact fun _ => rfl | exact fun h => absurd h (by simp) | exact subC_ints rfl | refine And.intro ?_ ?_ | rfl | (simp [subH_nil, hLts, hLt, renCk, renC, sg, Ck.cells, R_ints_ren, R_ints_hLts]; done)))
      · have he := h
        (try simp only [wA hA] at he)
        (try rw [h]); clear h
        cbv
        (try simp only [ncast] at *)
        rw [if_neg (by omega)] at hd0
        obtain ⟨hy0, hyl, hp12, hp2l⟩ := hok (by omega)
        refine call_distance hC fun da b2I ok2 hL2 => ?_
        rcases distF_of hL2 with ⟨rfl, hLF2⟩ | ⟨rfl, n2, hb2I, hLF2, da1, da2, hn2⟩
        · rw [hLF2] at hd0
          dsimp only at hd0
          cbv
          (try simp only [ncast] at *)
          simp only [hnf]
          cbv
          (try simp only [ncast] at *)
          subst hA hq
          have hrd : cpM xs wd mo large dl p o code = .error 7 := by rw [← hDD]; exact hd0
          refine Fin_of ⟨[(4, .int .i64 7)], [.vw [.ptr 1 0, .ptr 3 0, .bool large, .int .i64 stI, .ptr 5 0, .ptr 6 0], .box 101 [.lst 2 m, .int .i64 at2, .int .u64 hold2, .int .i64 nb2, .int .i64 0, .bool true], .lst 5 1 (R.ints .u8 xs), .box 98 [.int .i64 wd, .int .i64 mo, .bool false, .lst 8 k], .gone, .vw [], .vw dc, .vw (R.ints .i64 sy), .lst 5 1 (R.ints .u8 o)]⟩ ?_ ⟨a2, b2, p2, k, at2, hold2, nb2, 0, 7, o, hF2, .inl ⟨by omega, hrd⟩, hk, rfl, rfl⟩
          have dc0 : ∀ (N : Nat) (H1 : List Ck), 7 < N → H1[6]? = some (.vw dc) → subC 8 N [0, 1, 2, 3, 4, 5, 6, 7, 4] H1 6 6 (.vw dc) := fun N H1 hN h => dc_v hD hN rfl h
          exact Sc [0, 1, 2, 3, 4, 5, 6, 7, 4] (by repeat' (first | exact dc0 _ _ (Nat.le_of_ble_eq_true rfl) rfl | exact trivial | exact fun _ => rfl | exact fun h => absurd h (by simp) | exact subC_ints rfl | refine And.intro ?_ ?_ | rfl | (simp [subH_nil, hLts, hLt, renCk, renC, sg, Ck.cells, R_ints_ren, R_ints_hLts]; done)))
        · rw [hLF2] at hd0
          dsimp only at hd0
          cbv
          (try simp only [ncast] at *)
          simp only [hnt]
          cbv
          (try simp only [ncast] at *)
          refine call_bits hC hA (hb := 1) (hr := 2) (n := b2I) hx hF2 (by decide) rfl rfl fun a3 b3 p3 at3 hold3 nb3 er3 z2 hF3 hB3 => ?_
          have e2 : b2I.toNat = n2 := by omega
          rcases bits0 rfl (by omega) hB3 with ⟨h5, h6, h7, h8⟩ | ⟨h5, h6, h7, h8⟩
          · subst h7
            rw [e2] at h5
            rw [if_pos (by omega)] at hd0
            cbv
            (try simp only [ncast] at *)
            refine call_err hC (hb := 1) (hr := 2) rfl (by show 2 < 8; omega) ?_
            cbv
            (try simp only [ncast] at *)
            refine ifT (by simp only [neqA hA]; simp) fun h => ?_
            (try rw [h]); clear h
            cbv
            (try simp only [ncast] at *)
            subst hA hq
            have hrd : cpM xs wd mo large dl p o code = .error 3 := by rw [← hDD]; exact hd0
            refine Fin_of ⟨[(4, .int .i64 3)], [.vw [.ptr 1 0, .ptr 3 0, .bool large, .int .i64 stI, .ptr 5 0, .ptr 6 0], .box 101 [.lst 2 m, .int .i64 at3, .int .u64 hold3, .int .i64 nb3, .int .i64 3, .bool true], .lst 5 1 (R.ints .u8 xs), .box 98 [.int .i64 wd, .int .i64 mo, .bool false, .lst 8 k], .gone, .vw [], .vw dc, .vw (R.ints .i64 sy), .lst 5 1 (R.ints .u8 o)]⟩ ?_ ⟨a3, b3, p3, k, at3, hold3, nb3, 3, 3, o, hF3, .inl ⟨by omega, hrd⟩, hk, rfl, rfl⟩
            have dc0 : ∀ (N : Nat) (H1 : List Ck), 7 < N → H1[6]? = some (.vw dc) → subC 8 N [0, 1, 2, 3, 4, 5, 6, 7, 4] H1 6 6 (.vw dc) := fun N H1 hN h => dc_v hD hN rfl h
            exact Sc [0, 1, 2, 3, 4, 5, 6, 7, 4] (by repeat' (first | exact dc0 _ _ (Nat.le_of_ble_eq_true rfl) rfl | exact trivial | exact fun _ => rfl | exact fun h => absurd h (by simp) | exact subC_ints rfl | refine And.intro ?_ ?_ | rfl | (simp [subH_nil, hLts, hLt, renCk, renC, sg, Ck.cells, R_ints_ren, R_ints_hLts]; done)))
          · subst h7
            rw [e2] at h5 h6 h8
            rw [if_neg (by omega), ← h6, ← h8] at hd0
            have hzb2 := cut_b (V xs) p2 (n := n2)
            have hpw2 := pow16 (show n2 ≤ 16 by omega)
            rw [← h6] at hzb2
            clear hB3 h6 hF2
            obtain ⟨dd, hdd⟩ : ∃ v, v = da + z2 := ⟨_, rfl⟩
            rw [← hdd] at hd0
            have w2 : A.wrap .i64 z2 = z2 := by rw [wrapA hA, wrap64 (by omega)]
            have x2 : A.bin .add .i64 da z2 = dd := by rw [addA hA, wrap64 (by omega), hdd]
            cbv
            (try simp only [ncast] at *)
            simp only [w2, x2]
            refine call_err hC (hb := 1) (hr := 2) rfl (by show 2 < 8; omega) ?_
            cbv
            (try simp only [ncast] at *)
            refine ifF (by simp only [neqA hA]; simp) fun h => ?_
            (try rw [h]); clear h
            cbv
            (try simp only [ncast] at *)
            refine call_copy hC hA (hb := 3) (hr := 4) hk (hO.mq hB (by omega)) hw (by decide) rfl rfl fun e3 k3 ys hCp hk3 => ?_
            have hR := CpQ_fin hDD hd0 hO (show p + 1 ≤ p3 by omega) (by omega) (by omega) (by omega) hCp
            clear hCp
            cbv
            (try simp only [ncast] at *)
            subst hA hq
            refine Fin_of ⟨[(4, .int .i64 e3)], [.vw [.ptr 1 0, .ptr 3 0, .bool large, .int .i64 stI, .ptr 5 0, .ptr 6 0], .box 101 [.lst 2 m, .int .i64 at3, .int .u64 hold3, .int .i64 nb3, .int .i64 0, .bool true], .lst 5 1 (R.ints .u8 xs), .box 98 [.int .i64 wd, .int .i64 mo, .bool false, .lst 8 k3], .gone, .vw [], .vw dc, .vw (R.ints .i64 sy), .lst 5 1 (R.ints .u8 ys)]⟩ ?_ ⟨a3, b3, p3, k3, at3, hold3, nb3, 0, e3, ys, hF3, hR, hk3, rfl, rfl⟩
            have dc0 : ∀ (N : Nat) (H1 : List Ck), 7 < N → H1[6]? = some (.vw dc) → subC 8 N [0, 1, 2, 3, 4, 5, 6, 7, 8] H1 6 6 (.vw dc) := fun N H1 hN h => dc_v hD hN rfl h
            exact Sc [0, 1, 2, 3, 4, 5, 6, 7, 8] (by repeat' (first | exact dc0 _ _ (Nat.le_of_ble_eq_true rfl) rfl | exact trivial | exact fun _ => rfl | exact fun h => absurd h (by simp) | exact subC_ints rfl | refine And.intro ?_ ?_ | rfl | (simp [subH_nil, hLts, hLt, renCk, renC, sg, Ck.cells, R_ints_ren, R_ints_hLts]; done)))
end Go.Sx

/- inflate: words: the contract. -/
set_option maxRecDepth 100000
set_option maxHeartbeats 4000000
set_option linter.unusedVariables false
set_option linter.unusedSimpArgs false
namespace Go.Sx
open Go.Proofs.Tryd

theorem cells_nil {H : List Ck} {j : Nat} (h : j < H.length) : cellsAt H j 0 0 = some [] := by
  rw [cellsAt_eq (List.getElem?_eq_getElem h) (by simp)]; rfl
theorem wdM_step {xs : List Int} {wd mo : Int} {large : Bool} {ll dl : List Int} {f p : Nat} {o : List Int} {st : Int} (hf : 0 < f) : wdM xs wd mo large ll dl f p o st = if (nxM ll xs p).2.1 ≠ 0 then .error (nxM ll xs p).2.1
    else if (nxM ll xs p).1 = 256 then .ok ((nxM ll xs p).2.2, o, st + 1)
    else if (nxM ll xs p).1 < 256 then (if (o.length : Int) = mo then .error 9 else wdM xs wd mo large ll dl (f - 1) (nxM ll xs p).2.2 (o ++ [(nxM ll xs p).1]) (st + 1))
    else match cpM xs wd mo large dl (nxM ll xs p).2.2 o (nxM ll xs p).1 with
      | .error e => .error e
      | .ok (p2, o2) => wdM xs wd mo large ll dl (f - 1) p2 o2 (st + 1) := by
  obtain ⟨g, rfl⟩ : ∃ g, f = g + 1 := ⟨f - 1, by omega⟩
  rw [wdM]
  rfl
/-- What a block's words come to. -/
def WdR (xs : List Int) (wd mo : Int) (large : Bool) (ll dl : List Int) (p : Nat) (o : List Int) (st e : Int) (p' : Nat) (o' : List Int) (st' er' : Int) : Prop :=
  (e ≠ 0 ∧ wdM xs wd mo large ll dl (8 * xs.length + 1) p o st = .error e) ∨ (e = 0 ∧ er' = 0 ∧ OB xs mo p' o' ∧ p + 1 ≤ p' ∧ 0 ≤ st' ∧ st' ≤ p' ∧ wdM xs wd mo large ll dl (8 * xs.length + 1) p o st = .ok (p', o', st'))
/-- All chunks, behind. -/
def wdH (A : Ar) (large : Bool) (m k : Nat) (st at_ hold nb er : Int) (xs o : List Int) (wd mo : Int) (dc1 dc2 : List SV) (sy1 sy2 : List Int) : List Ck :=
  [.box 63 [.ptr 1 0, .ptr 3 0, .bool large, .int .i64 st, .ptr 5 0, .ptr 7 0], .box 101 [.lst 2 m, .int .i64 at_, .int .u64 hold, .int .i64 nb, .int .i64 er, .bool true], .lst 5 1 (A.ints .u8 xs), .box 98 [.int .i64 wd, .int .i64 mo, .bool false, .lst 9 k], .gone, .vw dc1, .vw (A.ints .i64 sy1), .vw dc2, .vw (A.ints .i64 sy2), .lst 5 1 (A.ints .u8 o)]
theorem s_words (xs : List Int) (m p a b k ks1 ks2 : Nat) (at_ hold nb wd mo st lg1 lg2 : Int) (large : Bool) (o ll dl sy1 tb1 sy2 tb2 : List Int) (dc1 dc2 : List SV) (hx : RX xs m) (hF : RF xs p a b at_ hold nb) (hk : k = o.length) (hw : 0 < wd) (hB : BB xs mo) (hO : OB xs mo p o) (hst : 0 ≤ st ∧ st ≤ p)
    (hQ1 : DecQ ll lg1 sy1 tb1) (hD1 : IsDC dc1 true lg1 (cvec ll) (fvec (cvec ll)) (.lst 6 ks1) tb1) (hks1 : ks1 = sy1.length)
    (hQ2 : DecQ dl lg2 sy2 tb2) (hD2 : IsDC dc2 true lg2 (cvec dl) (fvec (cvec dl)) (.lst 8 ks2) tb2) (hks2 : ks2 = sy2.length) :
    Spec prog 53 [.ptr 0 0] [.box 63 [.ptr 1 0, .ptr 3 0, .bool large, .int .i64 st, .ptr 5 0, .ptr 7 0], .box 101 [.lst 2 m, .int .i64 at_, .int .u64 hold, .int .i64 nb, .int .i64 0, .bool true], .lst 5 1 (R.ints .u8 xs), .box 98 [.int .i64 wd, .int .i64 mo, .bool false, .lst 4 k], .lst 5 1 (R.ints .u8 o), .vw dc1, .vw (R.ints .i64 sy1), .vw dc2, .vw (R.ints .i64 sy2)]
    (fun r H => ∃ (a b p' k' : Nat) (at_ hold nb er' st' e : Int) (o' : List Int), RF xs p' a b at_ hold nb ∧ WdR xs wd mo large ll dl p o st e p' o' st' er' ∧ k' = o'.length ∧ r = .int .i64 e ∧
      H = wdH R large m k' st' at_ hold nb er' xs o' wd mo dc1 dc2 sy1 sy2) := by
  refine Spec_of_kF (D := fun i => if i = 1 then (13, [1,2]) else (0, [])) (ks := [0, 2, 3, 4]) tok mixed (fn := f53) rfl rfl rfl (by kernel_rfl) (N := 46) rfl (rs := [.tmp 2]) rfl (Nat.le_of_ble_eq_true rfl) fun A C Kp E ag L q hA hC hK hE hag hL hq => ?_
  rw [← hA]
  cbv
  obtain ⟨M0, hM0⟩ : ∃ M, M = wdM xs wd mo large ll dl (8 * xs.length + 1) p o st := ⟨_, rfl⟩
  obtain ⟨ps, hps0⟩ : ∃ q : Nat, q = p := ⟨_, rfl⟩
  have hxl : xs.length ≤ 1000000000000 := hx.2.2
  rw [hL]
  refine ⟨fun kk s => ∃ (f p a b k : Nat) (at_ hold nb st : Int) (o : List Int), M0 = wdM xs wd mo large ll dl f p o st ∧ ps ≤ p ∧ 8 * xs.length < f + p ∧ OB xs mo p o ∧ 0 ≤ st ∧ st ≤ p ∧ k = o.length ∧ RF xs p a b at_ hold nb ∧ kk = 8 * xs.length + 1 - p ∧
      s = ⟨[(0, .ptr 0 0)], wdH A large m k st at_ hold nb 0 xs o wd mo dc1 dc2 sy1 sy2⟩,
    ⟨_, ⟨[(0, .ptr 0 0)], wdH A large m k st at_ hold nb 0 xs o wd mo dc1 dc2 sy1 sy2⟩, ?_, 8 * xs.length + 1, p, a, b, k, at_, hold, nb, st, o, hM0, by omega, by omega, hO, hst.1, hst.2, hk, hF, rfl, rfl⟩, ?_⟩
  · subst hA
    unfold wdH
    have dc0 : ∀ (N : Nat) (H1 : List Ck), 8 < N → H1[5]? = some (.vw dc1) → subC 9 N [0, 1, 2, 3, 4, 5, 6, 7, 8, 4] H1 5 5 (.vw dc1) := fun N H1 hN h => dc_v hD1 (by omega) rfl h
    have dc1 : ∀ (N : Nat) (H1 : List Ck), 8 < N → H1[7]? = some (.vw dc2) → subC 9 N [0, 1, 2, 3, 4, 5, 6, 7, 8, 4] H1 7 7 (.vw dc2) := fun N H1 hN h => dc_v hD2 (by omega) rfl h
    exact Sc [0, 1, 2, 3, 4, 5, 6, 7, 8, 4] (by repeat' (first | exact dc0 _ _ (Nat.le_of_ble_eq_true rfl) rfl | exact dc1 _ _ (Nat.le_of_ble_eq_true rfl) rfl | exact trivial | exact fun _ => rfl | exact fun h => absurd h (by simp) | exact subC_ints rfl | refine And.intro ?_ ?_ | rfl | (simp [subH_nil, hLts, hLt, renCk, renC, sg, Ck.cells, R_ints_ren, R_ints_hLts]; done)))
  clear hF hO hst hk
  rintro kk _ ⟨f, p1, a1, b1, k1, at1, hold1, nb1, st1, o1, hM, hps, hf, hO, hst0, hst1, hk, hF, hkk, rfl⟩
  have hstep := wdM_step (xs := xs) (wd := wd) (mo := mo) (large := large) (ll := ll) (dl := dl) (f := f) (p := p1) (o := o1) (st := st1) (by have := hO.2.2; omega)
  rw [← hM] at hstep
  clear hM
  have hp1l := hO.2.2
  cbv
  (try simp only [ncast] at *)
  refine call_cnext hC hA (hd := 5) (hs := 6) (hb := 1) (hr := 2) hQ1 hD1 hks1 hx hF (by decide) (cells_vwD rfl hD1.len) (cells_vwA hA rfl hks1) rfl rfl fun a2 b2 p2 at2 hold2 nb2 y e hF2 hN => ?_
  rw [hQ1.long] at hN
  rw [nxM_of hQ1.lens hN] at hstep
  dsimp only at hstep
  have hok := NextQ_ok hQ1.lens hN
  clear hN hF
  obtain ⟨st2, hst2⟩ : ∃ v, v = st1 + 1 := ⟨_, rfl⟩
  have e1 : A.bin .add .i64 st1 1 = st2 := by rw [addA hA, wrap64 (by omega), hst2]
  rw [← hst2] at hstep
  cbv
  (try simp only [ncast] at *)
  refine ifB_intro (fun h => ?_) (fun h => ?_)
  · have he := h
    (try simp only [wA hA] at he)
    (try rw [h]); clear h
    cbv
    (try simp only [ncast] at *)
    rw [if_pos he] at hstep
    have hW : WdR xs wd mo large ll dl p o st e p2 o1 st1 0 := .inl ⟨he, by rw [← hM0]; exact hstep⟩
    subst hA hq
    refine Fin_of ⟨[(2, .int .i64 e)], wdH R large m k1 st1 at2 hold2 nb2 0 xs o1 wd mo dc1 dc2 sy1 sy2⟩ ?_ ⟨a2, b2, p2, k1, at2, hold2, nb2, 0, st1, e, o1, hF2, hW, hk, rfl, rfl⟩
    unfold wdH
    have dc0 : ∀ (N : Nat) (H1 : List Ck), 8 < N → H1[5]? = some (.vw dc1) → subC 9 N [0, 1, 2, 3, 4, 5, 6, 7, 8, 9] H1 5 5 (.vw dc1) := fun N H1 hN h => dc_v hD1 (by omega) rfl h
    have dc1 : ∀ (N : Nat) (H1 : List Ck), 8 < N → H1[7]? = some (.vw dc2) → subC 9 N [0, 1, 2, 3, 4, 5, 6, 7, 8, 9] H1 7 7 (.vw dc2) := fun N H1 hN h => dc_v hD2 (by omega) rfl h
    exact Sc [0, 1, 2, 3, 4, 5, 6, 7, 8, 9] (by repeat' (first | exact dc0 _ _ (Nat.le_of_ble_eq_true rfl) rfl | exact dc1 _ _ (Nat.le_of_ble_eq_true rfl) rfl | exact trivial | exact fun _ => rfl | exact fun h => absurd h (by simp) | exact subC_ints rfl | refine And.intro ?_ ?_ | rfl | (simp [subH_nil, hLts, hLt, renCk, renC, sg, Ck.cells, R_ints_ren, R_ints_hLts]; done)))
  · have he := h
    (try simp only [wA hA] at he)
    (try rw [h]); clear h
    cbv
    (try simp only [ncast] at *)
    rw [if_neg (by omega)] at hstep
    obtain ⟨hy0, hyl, hp12, hp2l⟩ := hok (by omega)
    clear hok
    simp only [e1]
    refine ifB_intro (fun h => ?_) (fun h => ?_)
    · have h256 := h
      (try simp only [wA hA] at h256)
      (try rw [h]); clear h
      cbv
      (try simp only [ncast] at *)
      rw [if_neg (by omega), if_pos h256] at hstep
      have hwy : A.wrap .u8 y = y := by rw [wrapA hA, Go.IntKind.wrap_u8]; omega
      cbv
      (try simp only [ncast] at *)
      simp only [hwy]
      refine call_lit hC hA (hb := 3) (hr := 9) hk (by have := hO.len hB; omega) hw (by decide) rfl rfl fun e3 k3 ys hLi hk3 => ?_
      cbv
      (try simp only [ncast] at *)
      rcases hLi with ⟨h1, h2, h3⟩ | ⟨h1, h2, h3⟩
      · rw [if_pos h1] at hstep
        subst h2
        refine ifT (by simp only [neqA hA]; simp) fun h => ?_
        (try rw [h]); clear h
        cbv
        (try simp only [ncast] at *)
        have hW : WdR xs wd mo large ll dl p o st 9 p2 ys st2 0 := .inl ⟨by omega, by rw [← hM0]; exact hstep⟩
        subst hA hq
        refine Fin_of ⟨[(2, .int .i64 9)], wdH R large m k3 st2 at2 hold2 nb2 0 xs ys wd mo dc1 dc2 sy1 sy2⟩ ?_ ⟨a2, b2, p2, k3, at2, hold2, nb2, 0, st2, 9, ys, hF2, hW, hk3, rfl, rfl⟩
        unfold wdH
        have dc0 : ∀ (N : Nat) (H1 : List Ck), 8 < N → H1[5]? = some (.vw dc1) → subC 9 N [0, 1, 2, 3, 4, 5, 6, 7, 8, 10] H1 5 5 (.vw dc1) := fun N H1 hN h => dc_v hD1 (by omega) rfl h
        have dc1 : ∀ (N : Nat) (H1 : List Ck), 8 < N → H1[7]? = some (.vw dc2) → subC 9 N [0, 1, 2, 3, 4, 5, 6, 7, 8, 10] H1 7 7 (.vw dc2) := fun N H1 hN h => dc_v hD2 (by omega) rfl h
        exact Sc [0, 1, 2, 3, 4, 5, 6, 7, 8, 10] (by repeat' (first | exact dc0 _ _ (Nat.le_of_ble_eq_true rfl) rfl | exact dc1 _ _ (Nat.le_of_ble_eq_true rfl) rfl | exact trivial | exact fun _ => rfl | exact fun h => absurd h (by simp) | exact subC_ints rfl | refine And.intro ?_ ?_ | rfl | (simp [subH_nil, hLts, hLt, renCk, renC, sg, Ck.cells, R_ints_ren, R_ints_hLts]; done)))
      · rw [if_neg h1, ← h3] at hstep
        subst h2
        refine ifF (by simp only [neqA hA]; simp) fun h => ?_
        (try rw [h]); clear h
        cbv
        (try simp only [ncast] at *)
        have hyl2 : ys.length = o1.length + 1 := by rw [h3]; simp
        have hO2 : OB xs mo p2 ys := by
          obtain ⟨o1, o2, o3⟩ := hO
          exact ⟨by omega, by omega, hp2l⟩
        subst hag
        refine ⟨8 * xs.length + 1 - p2, ⟨[(0, .ptr 0 0)], wdH A large m k3 st2 at2 hold2 nb2 0 xs ys wd mo dc1 dc2 sy1 sy2⟩, by omega, ?_, f - 1, p2, a2, b2, k3, at2, hold2, nb2, st2, ys, hstep, by omega, by omega, hO2, by omega, by omega, hk3, hF2, rfl, rfl⟩
        subst hA
        unfold wdH
        have dc0 : ∀ (N : Nat) (H1 : List Ck), 8 < N → H1[5]? = some (.vw dc1) → subC 9 N [0, 1, 2, 3, 4, 5, 6, 7, 8, 10] H1 5 5 (.vw dc1) := fun N H1 hN h => dc_v hD1 (by omega) rfl h
        have dc1 : ∀ (N : Nat) (H1 : List Ck), 8 < N → H1[7]? = some (.vw dc2) → subC 9 N [0, 1, 2, 3, 4, 5, 6, 7, 8, 10] H1 7 7 (.vw dc2) := fun N H1 hN h => dc_v hD2 (by omega) rfl h
        exact Sc [0, 1, 2, 3, 4, 5, 6, 7, 8, 10] (by repeat' (first | exact dc0 _ _ (Nat.le_of_ble_eq_true rfl) rfl | exact dc1 _ _ (Nat.le_of_ble_eq_true rfl) rfl | exact trivial | exact fun _ => rfl | exact fun h => absurd h (by simp) | exact subC_ints rfl | refine And.intro ?_ ?_ | rfl | (simp [subH_nil, hLts, hLt, renCk, renC, sg, Ck.cells, R_ints_ren, R_ints_hLts]; done)))
    · have h256 := h
      (try simp only [wA hA] at h256)
      (try rw [h]); clear h
      cbv
      (try simp only [ncast] at *)
      refine ifB_intro (fun h => ?_) (fun h => ?_)
      · have h2 := h
        (try simp only [wA hA] at h2)
        (try rw [h]); clear h
        cbv
        (try simp only [ncast] at *)
        rw [if_pos h2] at hstep
        have hO2 : OB xs mo p2 o1 := by
          obtain ⟨o1, o2, o3⟩ := hO
          exact ⟨o1, by omega, hp2l⟩
        have hW : WdR xs wd mo large ll dl p o st 0 p2 o1 st2 0 := .inr ⟨rfl, rfl, hO2, by omega, by omega, by omega, by rw [← hM0]; exact hstep⟩
        subst hA hq
        refine Fin_of ⟨[(2, .int .i64 0)], wdH R large m k1 st2 at2 hold2 nb2 0 xs o1 wd mo dc1 dc2 sy1 sy2⟩ ?_ ⟨a2, b2, p2, k1, at2, hold2, nb2, 0, st2, 0, o1, hF2, hW, hk, rfl, rfl⟩
        unfold wdH
        have dc0 : ∀ (N : Nat) (H1 : List Ck), 8 < N → H1[5]? = some (.vw dc1) → subC 9 N [0, 1, 2, 3, 4, 5, 6, 7, 8, 9] H1 5 5 (.vw dc1) := fun N H1 hN h => dc_v hD1 (by omega) rfl h
        have dc1 : ∀ (N : Nat) (H1 : List Ck), 8 < N → H1[7]? = some (.vw dc2) → subC 9 N [0, 1, 2, 3, 4, 5, 6, 7, 8, 9] H1 7 7 (.vw dc2) := fun N H1 hN h => dc_v hD2 (by omega) rfl h
        exact Sc [0, 1, 2, 3, 4, 5, 6, 7, 8, 9] (by repeat' (first | exact dc0 _ _ (Nat.le_of_ble_eq_true rfl) rfl | exact dc1 _ _ (Nat.le_of_ble_eq_true rfl) rfl | exact trivial | exact fun _ => rfl | exact fun h => absurd h (by simp) | exact subC_ints rfl | refine And.intro ?_ ?_ | rfl | (simp [subH_nil, hLts, hLt, renCk, renC, sg, Ck.cells, R_ints_ren, R_ints_hLts]; done)))
      · have h2 := h
        (try simp only [wA hA] at h2)
        (try rw [h]); clear h
        cbv
        (try simp only [ncast] at *)
        rw [if_neg h2, if_neg (by omega)] at hstep
        have hO2 : OB xs mo p2 o1 := by
          obtain ⟨o1, o2, o3⟩ := hO
          exact ⟨o1, by omega, hp2l⟩
        have hD2' := hD2.setS (.lst 7 ks2)
        have hS := s_several xs m p2 a2 b2 k1 ks2 at2 hold2 nb2 wd mo st2 y lg2 large o1 dl sy2 tb2 _ hx hF2 hk hw hB hO2 hQ2 hD2' hks2
        rw [← hA] at hS
        have hm := hD2'.mapR (linkOf 10 [(0, 0, false), (1, 0, true), (2, 0, true), (3, 0, true), (9, 0, true), (5, 0, false), (7, 0, false), (8, 0, false)])
        have hu := hm.uniq hD2
        refine cal_of hC hS [(0, 0, false), (1, 0, true), (2, 0, true), (3, 0, true), (9, 0, true), (5, 0, false), (7, 0, false), (8, 0, false)] (by simp [lkOk]) ⟨⟨(show 1 < 8 by omega), (show 3 < 8 by omega), trivial, trivial, (show 5 < 8 by omega), (show 6 < 8 by omega), trivial⟩, ⟨trivial, trivial, trivial, trivial, trivial, trivial, trivial⟩, cells_box rfl rfl,
            rfl, ⟨(show 2 < 8 by omega), trivial, trivial, trivial, trivial, trivial, trivial⟩, ⟨rfl, trivial, trivial, trivial, trivial, trivial, trivial⟩, rfl,
            rfl, hLtsA hA .., zOksA hA .., ?_,
            rfl, ⟨trivial, trivial, trivial, (show 4 < 8 by omega), trivial⟩, ⟨trivial, trivial, trivial, rfl, trivial⟩, rfl,
            rfl, hLtsA hA .., zOksA hA .., ?_,
            trivial, trivial, cells_nil (show 5 < 10 by omega),
            hD2'.hl (show 7 < 8 by omega), hD2'.zo rfl, ?_,
            hLtsA hA .., zOksA hA .., ?_, trivial⟩ ⟨⟨(show 0 < 8 by omega), trivial, rfl⟩, ⟨trivial, trivial, rfl⟩, trivial⟩ ?_
        · rw [renCk, renA hA]; rfl
        · rw [renCk, renA hA]; rfl
        · exact Eq.trans (cells_vwD (cs := dc2) rfl (hD2.len.trans hD2'.len.symm)) (congrArg some hu.symm)
        · rw [renA hA, A_ints_len hA, ← hks2]; exact cells_vwA hA rfl hks2
        rintro _ _ ⟨a3, b3, p3, k3, at3, hold3, nb3, er3, e3, o3, hF3, hCp, hk3, rfl, rfl⟩
        refine ⟨_, .int .i64 e3, [.box 63 [.ptr 1 0, .ptr 3 0, .bool large, .int .i64 st2, .ptr 5 0, .ptr 7 0], .box 101 [.lst 2 m, .int .i64 at3, .int .u64 hold3, .int .i64 nb3, .int .i64 er3, .bool true], .lst 5 1 (A.ints .u8 xs), .box 98 [.int .i64 wd, .int .i64 mo, .bool false, .lst 10 k3], .gone, .vw dc1, .vw (A.ints .i64 sy1), .vw dc2, .vw (A.ints .i64 sy2), .gone, .lst 5 1 (A.ints .u8 o3)], rfl, rfl, ?_, ?_⟩
        · simp only [backH, List.cons_append, List.nil_append, List.map_cons, List.map_nil, renCk, renA hA, ← hA, setAll, List.length_cons, List.length_nil, List.drop_succ_cons, List.drop_zero]
          rfl
        clear hS hm hu hF2
        cbv
        (try simp only [ncast] at *)
        rcases hCp with ⟨g1, g2⟩ | ⟨rfl, rfl, hO3, hp3, g3⟩
        · rw [g2] at hstep
          have hW : WdR xs wd mo large ll dl p o st e3 p3 o3 st2 er3 := .inl ⟨g1, by rw [← hM0]; exact hstep⟩
          refine ifT (by simp only [neqA hA]; simp; exact g1) fun h => ?_
          (try rw [h]); clear h
          cbv
          (try simp only [ncast] at *)
          subst hA hq
          refine Fin_of ⟨[(2, .int .i64 e3)], wdH R large m k3 st2 at3 hold3 nb3 er3 xs o3 wd mo dc1 dc2 sy1 sy2⟩ ?_ ⟨a3, b3, p3, k3, at3, hold3, nb3, er3, st2, e3, o3, hF3, hW, hk3, rfl, rfl⟩
          unfold wdH
          have dc0 : ∀ (N : Nat) (H1 : List Ck), 8 < N → H1[5]? = some (.vw dc1) → subC 9 N [0, 1, 2, 3, 4, 5, 6, 7, 8, 10] H1 5 5 (.vw dc1) := fun N H1 hN h => dc_v hD1 (by omega) rfl h
          have dc1 : ∀ (N : Nat) (H1 : List Ck), 8 < N → H1[7]? = some (.vw dc2) → subC 9 N [0, 1, 2, 3, 4, 5, 6, 7, 8, 10] H1 7 7 (.vw dc2) := fun N H1 hN h => dc_v hD2 (by omega) rfl h
          exact Sc [0, 1, 2, 3, 4, 5, 6, 7, 8, 10] (by repeat' (first | exact dc0 _ _ (Nat.le_of_ble_eq_true rfl) rfl | exact dc1 _ _ (Nat.le_of_ble_eq_true rfl) rfl | exact trivial | exact fun _ => rfl | exact fun h => absurd h (by simp) | exact subC_ints rfl | refine And.intro ?_ ?_ | rfl | (simp [subH_nil, hLts, hLt, renCk, renC, sg, Ck.cells, R_ints_ren, R_ints_hLts]; done)))
        · rw [g3] at hstep
          dsimp only at hstep
          have hp3l := hO3.2.2
          refine ifF (by simp only [neqA hA]; simp) fun h => ?_
          (try rw [h]); clear h
          cbv
          (try simp only [ncast] at *)
          subst hag
          refine ⟨8 * xs.length + 1 - p3, ⟨[(0, .ptr 0 0)], wdH A large m k3 st2 at3 hold3 nb3 0 xs o3 wd mo dc1 dc2 sy1 sy2⟩, by omega, ?_, f - 1, p3, a3, b3, k3, at3, hold3, nb3, st2, o3, hstep, by omega, by omega, hO3, by omega, by omega, hk3, hF3, rfl, rfl⟩
          subst hA
          unfold wdH
          have dc0 : ∀ (N : Nat) (H1 : List Ck), 8 < N → H1[5]? = some (.vw dc1) → subC 9 N [0, 1, 2, 3, 4, 5, 6, 7, 8, 10] H1 5 5 (.vw dc1) := fun N H1 hN h => dc_v hD1 (by omega) rfl h
          have dc1 : ∀ (N : Nat) (H1 : List Ck), 8 < N → H1[7]? = some (.vw dc2) → subC 9 N [0, 1, 2, 3, 4, 5, 6, 7, 8, 10] H1 7 7 (.vw dc2) := fun N H1 hN h => dc_v hD2 (by omega) rfl h
          exact Sc [0, 1, 2, 3, 4, 5, 6, 7, 8, 10] (by repeat' (first | exact dc0 _ _ (Nat.le_of_ble_eq_true rfl) rfl | exact dc1 _ _ (Nat.le_of_ble_eq_true rfl) rfl | exact trivial | exact fun _ => rfl | exact fun h => absurd h (by simp) | exact subC_ints rfl | refine And.intro ?_ ?_ | rfl | (simp [subH_nil, hLts, hLt, renCk, renC, sg, Ck.cells, R_ints_ren, R_ints_hLts]; done)))
end Go.Sx

/- The document's own answer (17): what codes stand for. -/
set_option maxRecDepth 100000
set_option maxHeartbeats 2000000
set_option linter.unusedVariables false
set_option linter.unusedSimpArgs false
namespace Go.Sx
open Go.Proofs.Tryd

theorem bL_le : ∀ i : Fin 29, bL i.1 ≤ 300 ∧ 3 ≤ bL i.1 := by decide
theorem bD_le : ∀ i : Fin 33, bD i.1 ≤ 70000 ∧ 1 ≤ bD i.1 := by decide
theorem eL_le : ∀ i : Fin 28, eL i.1 ≤ 5 := by decide
theorem eD_le : ∀ i : Fin 32, eD i.1 ≤ 14 := by decide

def LQ (code c base e : Int) (i : Nat) : Prop := c = 257 + (i : Int) ∧ c ≤ code ∧ base = bL i ∧ (i ≤ 8 → e = 0)
def DQ2 (code c base e : Int) (i : Nat) : Prop := c = (i : Int) ∧ c ≤ code ∧ base = bD i ∧ (i ≤ 4 → e = 0)

theorem s_rlength (code : Int) (large : Bool) : Spec prog 62 [.int .i64 code, .bool large] [] (fun r H => (∃ a b ok, LenR code large a b ok ∧ r = .tup [.int .i64 a, .int .i64 b, .bool ok]) ∧ H = []) := by
  refine Spec_of_kX (D := fun i => (0, [])) (ks := [0, 1, 4, 5, 6, 7, 8, 9]) tok mixed (fn := f62) rfl rfl rfl (by kernel_rfl) (N := 40) rfl (rs := [.tmp 4, .tmp 5, .tmp 6]) rfl (Nat.le_of_ble_eq_true rfl) fun A C Kp E ag L q hA hC hK hE hag hL hq => ?_
  cbv
  refine ifB_intro (fun h => ?_) (fun h => ?_)
  · have h1 := h
    (try simp only [wA hA] at h1)
    (try rw [h]); clear h
    cbv
    subst hA hq
    exact ⟨⟨0, 0, false, .inl ⟨.inl h1, rfl, rfl, rfl⟩, rfl⟩, rfl⟩
  have h1 := h
  (try simp only [wA hA] at h1)
  (try rw [h]); clear h
  cbv
  refine ifB_intro (fun h => ?_) (fun h => ?_)
  · have h2 := h
    (try simp only [wA hA] at h2)
    (try rw [h]); clear h
    cbv
    subst hA hq
    exact ⟨⟨0, 0, false, .inl ⟨.inr h2, rfl, rfl, rfl⟩, rfl⟩, rfl⟩
  have h2 := h
  (try simp only [wA hA] at h2)
  (try rw [h]); clear h
  cbv
  refine ifB_intro (fun h => ?_) (fun h => ?_)
  · have h3 := h
    (try simp only [wA hA] at h3)
    (try rw [h]); clear h
    cbv
    refine ifB_intro (fun h => ?_) (fun h => ?_)
    · have h4 := h
      (try simp only [wA hA] at h4)
      (try rw [h]); clear h
      cbv
      subst hA hq
      exact ⟨⟨3, 16, true, .inr (.inl ⟨h3, h4, rfl, rfl, rfl⟩), rfl⟩, rfl⟩
    · have h4 := h
      (try simp only [wA hA] at h4)
      (try rw [h]); clear h
      cbv
      subst hA hq
      exact ⟨⟨258, 0, true, .inr (.inr (.inl ⟨h3, h4, rfl, rfl, rfl⟩)), rfl⟩, rfl⟩
  have h3 := h
  (try simp only [wA hA] at h3)
  (try rw [h]); clear h
  cbv
  rw [hL]
  refine loop_keep (fun kk s => ∃ (i : Nat) (c base e : Int), LQ code c base e i ∧ kk = (code - c).toNat ∧ s = ⟨[(0, .int .i64 code), (4, .int .i64 0), (5, .int .i64 0), (6, .bool false), (7, .int .i64 base), (8, .int .i64 e), (9, .int .i64 c)], []⟩) [0, 4, 5, 6, 7, 8, 9] _ ⟨0, 257, 3, 0, ⟨rfl, h1, rfl, fun _ => rfl⟩, rfl, rfl⟩ ?_
  rintro kk _ ⟨i, c, base, e, hQ, hkk, rfl⟩
  have hQ1 := hQ.1
  have hQ2 := hQ.2.1
  have hi28 : i ≤ 28 := by omega
  have hbl := bL_le ⟨i, by omega⟩
  have hb3 : bL i ≤ 300 := hbl.1
  have hb4 : 3 ≤ bL i := hbl.2
  have hbase := hQ.2.2.1
  cbv
  refine ifB_intro (fun h => ?_) (fun h => ?_)
  · have hlt := h
    (try simp only [wA hA] at hlt)
    (try rw [h]); clear h
    cbv
    simp only [ncast] at hQ1
    have hel : eL i ≤ 5 := eL_le ⟨i, by omega⟩
    have hqp : (2 : Int) ^ eL i ≤ 2 ^ 5 := by exact_mod_cast Nat.pow_le_pow_right (by decide) hel
    have hq5 : (2 : Int) ^ 5 = 32 := by decide
    have hpp := pow_pos2 (eL i)
    refine ifB_intro (fun h => ?_) (fun h => ?_)
    · have h8 := h
      (try simp only [wA hA] at h8)
      (try rw [h]); clear h
      cbv
      refine ⟨by (first | omega | (try simp only [wA hA, wB hA, Go.IntKind.wrap_i64] at *) <;> omega | (try simp only [decide_eq_true_eq, decide_eq_false_iff_not, beq_iff_eq, beq_eq_false_iff_ne, bne_iff_ne, bne_eq_false_iff_eq, Bool.not_eq_true', Bool.not_eq_false', ncast, Int.not_lt, Int.not_le, ne_eq, not_true_eq_false, not_false_eq_true, false_or, true_and, Go.IntKind.wrap_i64] at *) <;> omega), ?_⟩
      have ev : A.bin .quo .i64 (A.bin .sub .i64 c 261) 4 = ((eL i : Nat) : Int) := by
        (try simp only [ncast] at *)
        rw [subA' hA, wrap64 (by omega), quoA hA, tdiv_nn (by omega), wrap64 (by omega)]
        unfold eL
        rw [if_neg (by omega)]
        omega
      obtain ⟨ee, hee⟩ : ∃ ee, ee = A.bin .quo .i64 (A.bin .sub .i64 c 261) 4 := ⟨_, rfl⟩
      simp only [← hee]
      rw [← hee] at ev
      refine call_two hC (n := eL i) (by omega) ev fun y hy => ?_
      cbv
      subst hA hag
      (try simp only [ncast] at *)
      have e1 : IntKind.i64.wrap (c + 1) = c + 1 := wrap64 (by omega)
      have e2 : IntKind.i64.wrap (base + y) = base + y := wrap64 (by omega)
      refine again_keep [0, 4, 5, 6, 7, 8, 9] (code - (c + 1)).toNat (by omega) ⟨i + 1, IntKind.i64.wrap (c + 1), IntKind.i64.wrap (base + y), _, ⟨by omega, by omega, ?_, ?_⟩, by rw [e1], rfl⟩
      · rw [e2, hbase, hy]; rfl
      · intro h8
        first | exact hQ.2.2.2 (by omega) | (exfalso; omega)
    · have h8 := h
      (try simp only [wA hA] at h8)
      (try rw [h]); clear h
      cbv
      have ev : e = ((eL i : Nat) : Int) := by
        (try simp only [ncast] at *)
        rw [hQ.2.2.2 (by omega)]
        unfold eL
        rw [if_pos (by omega)]; rfl
      refine call_two hC (n := eL i) (by omega) ev fun y hy => ?_
      cbv
      subst hA hag
      (try simp only [ncast] at *)
      have e1 : IntKind.i64.wrap (c + 1) = c + 1 := wrap64 (by omega)
      have e2 : IntKind.i64.wrap (base + y) = base + y := wrap64 (by omega)
      refine again_keep [0, 4, 5, 6, 7, 8, 9] (code - (c + 1)).toNat (by omega) ⟨i + 1, IntKind.i64.wrap (c + 1), IntKind.i64.wrap (base + y), _, ⟨by omega, by omega, ?_, ?_⟩, by rw [e1], rfl⟩
      · rw [e2, hbase, hy]; rfl
      · intro h8
        first | exact hQ.2.2.2 (by omega) | (exfalso; omega)
  · have hge := h
    (try simp only [wA hA] at hge)
    (try rw [h]); clear h
    cbv
    (try simp only [ncast] at *)
    have hce : code = c := by omega
    subst hce
    refine ifB_intro (fun h => ?_) (fun h => ?_)
    · have h8 := h
      (try simp only [wA hA] at h8)
      (try rw [h]); clear h
      cbv
      refine ⟨by (first | omega | (try simp only [wA hA, wB hA, Go.IntKind.wrap_i64] at *) <;> omega | (try simp only [decide_eq_true_eq, decide_eq_false_iff_not, beq_iff_eq, beq_eq_false_iff_ne, bne_iff_ne, bne_eq_false_iff_eq, Bool.not_eq_true', Bool.not_eq_false', ncast, Int.not_lt, Int.not_le, ne_eq, not_true_eq_false, not_false_eq_true, false_or, true_and, Go.IntKind.wrap_i64] at *) <;> omega), ?_⟩
      (try simp only [ncast] at *)
      subst hA hq
      refine ⟨⟨_, _, true, .inr (.inr (.inr ⟨i, hQ1, by omega, hbase, ?_, rfl⟩)), rfl⟩, rfl⟩
      show IntKind.i64.wrap ((IntKind.i64.wrap (code - 261)).tdiv 4) = _
      rw [wrap64 (n := code - 261) (by omega), tdiv_nn (by omega), wrap64 (by omega)]
      unfold eL
      rw [if_neg (by omega)]
      omega
    · have h8 := h
      (try simp only [wA hA] at h8)
      (try rw [h]); clear h
      cbv
      (try simp only [ncast] at *)
      subst hA hq
      refine ⟨⟨_, _, true, .inr (.inr (.inr ⟨i, hQ1, by omega, hbase, ?_, rfl⟩)), rfl⟩, rfl⟩
      unfold eL
      rw [if_pos (by omega)]; rfl

theorem s_rdistance (code : Int) (large : Bool) : Spec prog 64 [.int .i64 code, .bool large] [] (fun r H => (∃ a b ok, DistR code large a b ok ∧ r = .tup [.int .i64 a, .int .i64 b, .bool ok]) ∧ H = []) := by
  refine Spec_of_kX (D := fun i => (0, [])) (ks := [0, 1, 4, 5, 6, 7, 8, 9]) tok mixed (fn := f64) rfl rfl rfl (by kernel_rfl) (N := 45) rfl (rs := [.tmp 4, .tmp 5, .tmp 6]) rfl (Nat.le_of_ble_eq_true rfl) fun A C Kp E ag L q hA hC hK hE hag hL hq => ?_
  cbv
  refine ifB_intro (fun h => ?_) (fun h => ?_)
  · have h1 := h
    (try simp only [wA hA] at h1)
    (try rw [h]); clear h
    cbv
    subst hA hq
    exact ⟨⟨0, 0, false, .inl ⟨.inl h1, rfl, rfl, rfl⟩, rfl⟩, rfl⟩
  have h1 := h
  (try simp only [wA hA] at h1)
  (try rw [h]); clear h
  cbv
  refine ifB_intro (fun h => ?_) (fun h => ?_)
  · have h2 := h
    (try simp only [wA hA] at h2)
    (try rw [h]); clear h
    cbv
    subst hA hq
    exact ⟨⟨0, 0, false, .inl ⟨.inr (.inl h2), rfl, rfl, rfl⟩, rfl⟩, rfl⟩
  have h2 := h
  (try simp only [wA hA] at h2)
  (try rw [h]); clear h
  cbv
  refine ifB_intro (fun h => ?_) (fun h => ?_)
  have h3 := h
  (try simp only [wA hA] at h3)
  (try rw [h]); clear h
  cbv
  refine ifB_intro (fun h => ?_) (fun h => ?_)
  · have h4 := h
    (try simp only [wA hA] at h4)
    (try rw [h]); clear h
    cbv
    subst hA hq
    exact ⟨⟨0, 0, false, .inl ⟨.inr (.inr ⟨h3, h4⟩), rfl, rfl, rfl⟩, rfl⟩, rfl⟩
  have h4 := h
  (try simp only [wA hA] at h4)
  (try rw [h]); clear h
  cbv
  have hlim : code < 30 ∨ large = true := .inr h4
  rotate_left
  have h3 := h
  (try simp only [wA hA] at h3)
  (try rw [h]); clear h
  cbv
  have hlim : code < 30 ∨ large = true := .inl (by omega)
  rotate_left
  all_goals
    rw [hL]
    refine loop_keep (fun kk s => ∃ (i : Nat) (c base e : Int), DQ2 code c base e i ∧ kk = (code - c).toNat ∧ s = ⟨[(0, .int .i64 code), (4, .int .i64 0), (5, .int .i64 0), (6, .bool false), (7, .int .i64 base), (8, .int .i64 e), (9, .int .i64 c)], []⟩) [0, 4, 5, 6, 7, 8, 9] _ ⟨0, 0, 1, 0, ⟨rfl, h1, rfl, fun _ => rfl⟩, rfl, rfl⟩ ?_
    rintro kk _ ⟨i, c, base, e, hQ, hkk, rfl⟩
    have hQ1 := hQ.1
    have hQ2 := hQ.2.1
    have hi28 : i ≤ 31 := by omega
    have hbl := bD_le ⟨i, by omega⟩
    have hb3 : bD i ≤ 70000 := hbl.1
    have hb4 : 1 ≤ bD i := hbl.2
    have hbase := hQ.2.2.1
    cbv
    refine ifB_intro (fun h => ?_) (fun h => ?_)
    · have hlt := h
      (try simp only [wA hA] at hlt)
      (try rw [h]); clear h
      cbv
      simp only [ncast] at hQ1
      have hel : eD i ≤ 14 := eD_le ⟨i, by omega⟩
      have hqp : (2 : Int) ^ eD i ≤ 2 ^ 14 := by exact_mod_cast Nat.pow_le_pow_right (by decide) hel
      have hq5 : (2 : Int) ^ 14 = 16384 := by decide
      have hpp := pow_pos2 (eD i)
      refine ifB_intro (fun h => ?_) (fun h => ?_)
      · have h8 := h
        (try simp only [wA hA] at h8)
        (try rw [h]); clear h
        cbv
        refine ⟨by (first | omega | (try simp only [wA hA, wB hA, Go.IntKind.wrap_i64] at *) <;> omega | (try simp only [decide_eq_true_eq, decide_eq_false_iff_not, beq_iff_eq, beq_eq_false_iff_ne, bne_iff_ne, bne_eq_false_iff_eq, Bool.not_eq_true', Bool.not_eq_false', ncast, Int.not_lt, Int.not_le, ne_eq, not_true_eq_false, not_false_eq_true, false_or, true_and, Go.IntKind.wrap_i64] at *) <;> omega), ?_⟩
        have ev : A.bin .sub .i64 (A.bin .quo .i64 c 2) 1 = ((eD i : Nat) : Int) := by
          (try simp only [ncast] at *)
          rw [quoA hA, tdiv_nn (by omega), wrap64 (by omega), subA' hA, wrap64 (by omega)]
          unfold eD
          rw [if_neg (by omega)]
          omega
        obtain ⟨ee, hee⟩ : ∃ ee, ee = A.bin .sub .i64 (A.bin .quo .i64 c 2) 1 := ⟨_, rfl⟩
        simp only [← hee]
        rw [← hee] at ev
        refine call_two hC (n := eD i) (by omega) ev fun y hy => ?_
        cbv
        subst hA hag
        (try simp only [ncast] at *)
        have e1 : IntKind.i64.wrap (c + 1) = c + 1 := wrap64 (by omega)
        have e2 : IntKind.i64.wrap (base + y) = base + y := wrap64 (by omega)
        refine again_keep [0, 4, 5, 6, 7, 8, 9] (code - (c + 1)).toNat (by omega) ⟨i + 1, IntKind.i64.wrap (c + 1), IntKind.i64.wrap (base + y), _, ⟨by omega, by omega, ?_, ?_⟩, by rw [e1], rfl⟩
        · rw [e2, hbase, hy]; rfl
        · intro h8
          first | exact hQ.2.2.2 (by omega) | (exfalso; omega)
      · have h8 := h
        (try simp only [wA hA] at h8)
        (try rw [h]); clear h
        cbv
        have ev : e = ((eD i : Nat) : Int) := by
          (try simp only [ncast] at *)
          rw [hQ.2.2.2 (by omega)]
          unfold eD
          rw [if_pos (by omega)]; rfl
        refine call_two hC (n := eD i) (by omega) ev fun y hy => ?_
        cbv
        subst hA hag
        (try simp only [ncast] at *)
        have e1 : IntKind.i64.wrap (c + 1) = c + 1 := wrap64 (by omega)
        have e2 : IntKind.i64.wrap (base + y) = base + y := wrap64 (by omega)
        refine again_keep [0, 4, 5, 6, 7, 8, 9] (code - (c + 1)).toNat (by omega) ⟨i + 1, IntKind.i64.wrap (c + 1), IntKind.i64.wrap (base + y), _, ⟨by omega, by omega, ?_, ?_⟩, by rw [e1], rfl⟩
        · rw [e2, hbase, hy]; rfl
        · intro h8
          first | exact hQ.2.2.2 (by omega) | (exfalso; omega)
    · have hge := h
      (try simp only [wA hA] at hge)
      (try rw [h]); clear h
      cbv
      (try simp only [ncast] at *)
      have hce : code = c := by omega
      subst hce
      have hlim2 : i < 30 ∨ large = true := by
        rcases hlim with h | h
        · left; omega
        · exact .inr h
      refine ifB_intro (fun h => ?_) (fun h => ?_)
      · have h8 := h
        (try simp only [wA hA] at h8)
        (try rw [h]); clear h
        cbv
        refine ⟨by (first | omega | (try simp only [wA hA, wB hA, Go.IntKind.wrap_i64] at *) <;> omega | (try simp only [decide_eq_true_eq, decide_eq_false_iff_not, beq_iff_eq, beq_eq_false_iff_ne, bne_iff_ne, bne_eq_false_iff_eq, Bool.not_eq_true', Bool.not_eq_false', ncast, Int.not_lt, Int.not_le, ne_eq, not_true_eq_false, not_false_eq_true, false_or, true_and, Go.IntKind.wrap_i64] at *) <;> omega), ?_⟩
        (try simp only [ncast] at *)
        subst hA hq
        refine ⟨⟨_, _, true, .inr ⟨i, hQ1, by omega, hlim2, hbase, ?_, rfl⟩, rfl⟩, rfl⟩
        show IntKind.i64.wrap (IntKind.i64.wrap (code.tdiv 2) - 1) = _
        rw [tdiv_nn (by omega), wrap64 (n := code / 2) (by omega), wrap64 (by omega)]
        unfold eD
        rw [if_neg (by omega)]
        omega
      · have h8 := h
        (try simp only [wA hA] at h8)
        (try rw [h]); clear h
        cbv
        (try simp only [ncast] at *)
        subst hA hq
        refine ⟨⟨_, _, true, .inr ⟨i, hQ1, by omega, hlim2, hbase, ?_, rfl⟩, rfl⟩, rfl⟩
        unfold eD
        rw [if_pos (by omega)]; rfl

section
variable {A : Ar} {C : CallT} {s : St} {κ : List Nat → SV → List Ck → Prop}
theorem call_rlength (hC : C = CallX prog) {code : Int} {large : Bool} (hk : ∀ a b ok, LenR code large a b ok → κ [] (.tup [.int .i64 a, .int .i64 b, .bool ok]) s.H) : C 62 [.int .i64 code, .bool large] s κ := by
  refine cal_pure hC (s_rlength code large) ⟨⟨trivial, trivial, rfl⟩, ⟨trivial, trivial, rfl⟩, trivial⟩ ?_
  rintro _ ⟨a, b, ok, h, rfl⟩
  exact ⟨_, rfl, hk a b ok h⟩
theorem call_rdistance (hC : C = CallX prog) {code : Int} {large : Bool} (hk : ∀ a b ok, DistR code large a b ok → κ [] (.tup [.int .i64 a, .int .i64 b, .bool ok]) s.H) : C 64 [.int .i64 code, .bool large] s κ := by
  refine cal_pure hC (s_rdistance code large) ⟨⟨trivial, trivial, rfl⟩, ⟨trivial, trivial, rfl⟩, trivial⟩ ?_
  rintro _ ⟨a, b, ok, h, rfl⟩
  exact ⟨_, rfl, hk a b ok h⟩
end
end Go.Sx

/- dyn: the document's Order, lists, Read. -/
set_option maxRecDepth 100000
set_option maxHeartbeats 4000000
set_option linter.unusedVariables false
set_option linter.unusedSimpArgs false
namespace Go.Sx
open Go.Proofs.Tryd

theorem s_rorder : Spec prog 59 [] [] (fun r H => r = .lst 0 19 ∧ H = [.lst 3 1 (R.ints .i64 ordD)]) := by
  refine Spec_of_kX (D := fun i => (0, [])) (ks := [0]) tok mixed (fn := f59) rfl rfl rfl (by kernel_rfl) (N := 2) rfl (rs := [.tmp 0]) rfl (Nat.le_of_ble_eq_true rfl) fun A C Kp E ag L q hA hC hK hE hag hL hq => ?_
  cbv
  subst hA hq
  exact ⟨rfl, rfl⟩
section
variable {A : Ar} {C : CallT} {s : St} {κ : List Nat → SV → List Ck → Prop}
theorem call_rorder (hC : C = CallX prog) (hA : A = R) (hk : κ [] (.lst (len1 s.H) 19) (apd s.H [.lst 3 1 (A.ints .i64 ordD)])) : C 59 [] s κ := by
  refine cal_of hC s_rorder [] trivial trivial trivial ?_
  rintro _ _ ⟨rfl, rfl⟩
  refine ⟨_, _, s.H ++ [.lst 3 1 (A.ints .i64 ordD)], rfl, rfl, ?_, ?_⟩
  · subst hA; rfl
  · rw [len1_eq, apd_eq] at hk
    exact hk
end
end Go.Sx

/- dyn: the document's lists. -/
set_option maxRecDepth 100000
set_option maxHeartbeats 4000000
set_option linter.unusedVariables false
set_option linter.unusedSimpArgs false
namespace Go.Sx
open Go.Proofs.Tryd

theorem s_rlists (l : List Int) (ln : Nat) (cs : List SV) (xs : List Int) (m p : Nat) (pI n : Int) (hn : 0 ≤ n ∧ n ≤ 1000) (hLn : Lens l) (hln : ln = l.length) (rwC : RWs CodeK (codesL l) cs) (hP : RP xs m p pI) :
    Spec prog 79 [.ptr 0 0, .sl 2 0 ln false, .int .i64 n] [.box 71 [.sl 1 0 m false, .int .i64 pI, .int .i64 0], .vw (R.ints .u8 xs), .vw cs] (fun r H => ∃ (p' k : Nat) (pI' er' e : Int) (o : List Int), RP xs m p' pI' ∧ LiQ l xs n p o e p' er' ∧ k = o.length ∧ r = .tup [.lst 3 k, .int .i64 e] ∧
      H = [.box 71 [.sl 1 0 m false, .int .i64 pI', .int .i64 er'], .vw (R.ints .u8 xs), .vw cs, .lst 3 1 (R.ints .i64 o)]) := by
  refine Spec_of_kF (D := fun i => if i = 14 then (5, []) else (0, [])) (ks := [0, 1, 2, 6, 7, 8, 9, 10, 11, 12, 13]) tok mixed (fn := f79) rfl rfl rfl (by kernel_rfl) (N := 86) rfl (rs := [.tmp 6, .tmp 7]) rfl (Nat.le_of_ble_eq_true rfl) fun A C Kp E ag L q hA hC hK hE hag hL hq => ?_
  rw [← hA]
  have hxs : xs = xs.take m := by rw [hP.2.2.2.1, List.take_length]
  have hmx : m ≤ xs.length := by rw [hP.2.2.2.1]; omega
  cbv
  obtain ⟨M0, hM0⟩ : ∃ M, M = liM l xs n n.toNat p [] := ⟨_, rfl⟩
  rw [hL]
  refine ⟨fun kk s => ∃ (f p k : Nat) (pI : Int) (o : List Int), (∀ v ∈ o, 0 ≤ v) ∧ M0 = liM l xs n f p o ∧ n ≤ f + o.length ∧ (o.length : Int) ≤ n ∧ k = o.length ∧ RP xs m p pI ∧ kk = (n - o.length).toNat ∧
      s = ⟨[(0, .ptr 0 0), (1, .sl 2 0 ln false), (2, .int .i64 n), (8, .lst 3 k)], [.box 71 [.sl 1 0 m false, .int .i64 pI, .int .i64 0], .vw (A.ints .u8 xs), .vw cs, .lst 3 1 (A.ints .i64 o)]⟩,
    ⟨_, ⟨[(0, .ptr 0 0), (1, .sl 2 0 ln false), (2, .int .i64 n), (8, .lst 3 0)], [.box 71 [.sl 1 0 m false, .int .i64 pI, .int .i64 0], .vw (A.ints .u8 xs), .vw cs, .lst 3 1 (A.ints .i64 [])]⟩, ?_, n.toNat, p, 0, pI, [], (fun v hv => by cases hv), hM0, by simp; omega, by simp; omega, rfl, hP, rfl, rfl⟩, ?_⟩
  · subst hA
    refine (Sub_nilT (i := 8) 3 1 rfl).trans ?_
    exact Sc [0, 1, 2, 3] (by repeat' (first | exact trivial | exact fun _ => rfl | exact fun h => absurd h (by simp) | exact subC_ints rfl | exact subC_rw rwC rfl | exact subC_rwv rwC rfl rfl | refine And.intro ?_ ?_ | rfl | (simp [subH_nil, hLts, hLt, renCk, renC, sg, Ck.cells, R_ints_ren, R_ints_hLts]; done)))
  clear hP
  rintro kk _ ⟨f, p1, k, pI1, o, hnn, hM, hf, hol, hk, hP, hkk, rfl⟩
  have hon : (o.length : Int) ≤ 1000 := by omega
  obtain ⟨kI, hkI⟩ : ∃ i : Int, i = o.length := ⟨_, rfl⟩
  have ek : A.nat k = kI := by rw [natA hA, hk, hkI]
  cbv
  (try simp only [ncast] at *)
  simp only [ek]
  refine ifB_intro (fun h => ?_) (fun h => ?_)
  · have hlt := h
    (try simp only [wA hA] at hlt)
    (try rw [h]); clear h
    cbv
    (try simp only [ncast] at *)
    have hstep := liM_step (l := l) (xs := xs) (n := n) (f := f) (p := p1) (o := o) (by omega) (by omega)
    rw [← hM] at hstep
    clear hM
    refine call_rnext hC hA (hc := 2) (hb := 0) (hv := 1) (ws := xs) hLn hln rwC hP (by decide) (cells_vwD rfl rfl) rfl rfl hxs hmx ⟨(show 0 < 3 by omega), rfl, rfl, rfl⟩ fun p2 pI2 y e hP2 hN => ?_
    rw [nxM_of hLn hN] at hstep
    have hok := NextQ_ok hLn hN
    clear hN hP
    cbv
    (try simp only [ncast] at *)
    refine ifB_intro (fun h => ?_) (fun h => ?_)
    · have he := h
      (try simp only [wA hA] at he)
      (try rw [h]); clear h
      cbv
      (try simp only [ncast] at *)
      rw [if_pos he] at hstep
      have hstep : M0 = .error e := hstep
      subst hA hq
      refine Fin_of ⟨[(6, .lst 3 0), (7, .int .i64 e)], [.box 71 [.sl 1 0 m false, .int .i64 pI2, .int .i64 0], .vw (R.ints .u8 xs), .vw cs, .lst 3 1 (R.ints .i64 [])]⟩ ((Sub_nilT (i := 6) 3 1 rfl).trans ?_) ⟨p2, 0, pI2, 0, e, [], hP2, .inl ⟨by omega, rfl, by rw [← hM0]; exact hstep⟩, rfl, rfl, rfl⟩
      exact Sc [0, 1, 2, 4] (by repeat' (first | exact trivial | exact fun _ => rfl | exact fun h => absurd h (by simp) | exact subC_ints rfl | exact subC_rw rwC rfl | exact subC_rwv rwC rfl rfl | refine And.intro ?_ ?_ | rfl | (simp [subH_nil, hLts, hLt, renCk, renC, sg, Ck.cells, R_ints_ren, R_ints_hLts]; done)))
    · have he := h
      (try simp only [wA hA] at he)
      (try rw [h]); clear h
      cbv
      (try simp only [ncast] at *)
      rw [if_neg (by omega)] at hstep
      obtain ⟨hy0, hyl, hp12, hp2l⟩ := hok (by omega)
      have hlast : (o = [] ∧ lastI o = -1) ∨ (0 < o.length ∧ lastI o = o.getD (o.length - 1) 0 ∧ 0 ≤ lastI o) := by
        unfold lastI
        by_cases h : o = []
        · rw [if_pos h]; exact .inl ⟨h, rfl⟩
        · rw [if_neg h]
          have h0 : 0 < o.length := List.length_pos_iff.2 h
          refine .inr ⟨h0, rfl, hnn _ ?_⟩
          rw [List.getD_eq_getElem?_getD, List.getElem?_eq_getElem (by omega)]
          exact List.getElem_mem _
      refine ifB_intro (fun h => ?_) (fun h => ?_)
      · have h1 := h
        (try simp only [wA hA] at h1)
        (try rw [h]); clear h
        cbv
        (try simp only [ncast] at *)
        refine call_rbits hC hA (hb := 0) (hv := 1) (ws := xs) hP2 (by decide) rfl rfl hxs hmx fun p3 pI3 er3 z hP3 hB0 => ?_
        have hB1 := bits0 rfl (by omega) hB0
        clear hB0
        rcases hB1 with ⟨hB, hz, he3, hp3⟩ | ⟨hB, hz, he3, hp3⟩
        · subst he3
          have hro : rowM xs p2 y (lastI o) = .error 3 := by
            have hB : 8 * xs.length < p2 + 2 := hB
            unfold rowM
            rw [if_pos h1]
            rw [if_pos hB]
          rw [hro] at hstep
          have hstep : M0 = .error 3 := hstep
          clear hB hz hp3 hro
          cbv
          (try simp only [ncast] at *)
          refine ifF (by simp only [eqlA hA]; simp; omega) fun h => ?_
          (try rw [h]); clear h
          cbv
          (try simp only [ncast] at *)
          refine ifF (by simp only [eqlA hA]; simp; omega) fun h => ?_
          (try rw [h]); clear h
          cbv
          (try simp only [ncast] at *)
          refine ifT (by simp only [neqA hA]; simp) fun h => ?_
          (try rw [h]); clear h
          cbv
          (try simp only [ncast] at *)
          subst hA hq
          refine Fin_of ⟨[(6, .lst 3 0), (7, .int .i64 3)], [.box 71 [.sl 1 0 m false, .int .i64 pI3, .int .i64 3], .vw (R.ints .u8 xs), .vw cs, .lst 3 1 (R.ints .i64 [])]⟩ ((Sub_nilT (i := 6) 3 1 rfl).trans ?_) ⟨p3, 0, pI3, 3, 3, [], hP3, .inl ⟨by omega, rfl, by rw [← hM0]; exact hstep⟩, rfl, rfl, rfl⟩
          exact Sc [0, 1, 2, 4] (by repeat' (first | exact trivial | exact fun _ => rfl | exact fun h => absurd h (by simp) | exact subC_ints rfl | exact subC_rw rwC rfl | exact subC_rwv rwC rfl rfl | refine And.intro ?_ ?_ | rfl | (simp [subH_nil, hLts, hLt, renCk, renC, sg, Ck.cells, R_ints_ren, R_ints_hLts]; done)))
        subst he3
        have hB : p2 + 2 ≤ 8 * xs.length := hB
        have hz : z = cut (V xs) p2 2 := hz
        have hp3 : p3 = p2 + 2 := hp3
        have hcb := cut_b (V xs) p2 (n := 2)
        rw [← hz] at hcb
        have hcb : 0 ≤ z ∧ z < 128 := by
          have : (2 : Int) ^ 2 ≤ 2 ^ 7 := by exact_mod_cast Nat.pow_le_pow_right (by decide) (by decide)
          have e7 : (2 : Int) ^ 7 = 128 := rfl
          omega
        have e1 : A.wrap .i64 z = z := by rw [wrapA hA, wrap64 (by omega)]
        obtain ⟨k2, hk2⟩ : ∃ v, v = 3 + z := ⟨_, rfl⟩
        have e2 : A.bin .add .i64 3 z = k2 := by rw [addA hA, wrap64 (by omega), hk2]
        cbv
        (try simp only [ncast] at *)
        simp only [e1, e2]
        refine ifF (by simp only [eqlA hA]; simp; omega) fun h => ?_
        (try rw [h]); clear h
        cbv
        (try simp only [ncast] at *)
        refine ifF (by simp only [eqlA hA]; simp; omega) fun h => ?_
        (try rw [h]); clear h
        cbv
        (try simp only [ncast] at *)
        refine ifF (by simp only [neqA hA]; simp) fun h => ?_
        (try rw [h]); clear h
        cbv
        (try simp only [ncast] at *)
        refine ifT (by simp only [eqlA hA]; simp; exact h1) fun h => ?_
        (try rw [h]); clear h
        cbv
        (try simp only [ncast] at *)
        simp only [ek]
        refine ifB_intro (fun h => ?_) (fun h => ?_)
        · have h5 := h
          (try simp only [wA hA] at h5)
          (try rw [h]); clear h
          cbv
          (try simp only [ncast] at *)
          have ho0 : o = [] := List.length_eq_zero_iff.1 (by omega)
          have hstep : M0 = .error 7 := by
            rw [hstep, ho0]
            unfold rowM
            rw [if_pos h1, if_neg (by omega), if_pos (by show (-1 : Int) < 0; omega)]
          subst hA hq
          refine Fin_of ⟨[(6, .lst 3 0), (7, .int .i64 7)], [.box 71 [.sl 1 0 m false, .int .i64 pI3, .int .i64 0], .vw (R.ints .u8 xs), .vw cs, .lst 3 1 (R.ints .i64 [])]⟩ ((Sub_nilT (i := 6) 3 1 rfl).trans ?_) ⟨p3, 0, pI3, 0, 7, [], hP3, .inl ⟨by omega, rfl, by rw [← hM0]; exact hstep⟩, rfl, rfl, rfl⟩
          exact Sc [0, 1, 2, 4] (by repeat' (first | exact trivial | exact fun _ => rfl | exact fun h => absurd h (by simp) | exact subC_ints rfl | exact subC_rw rwC rfl | exact subC_rwv rwC rfl rfl | refine And.intro ?_ ?_ | rfl | (simp [subH_nil, hLts, hLt, renCk, renC, sg, Ck.cells, R_ints_ren, R_ints_hLts]; done)))
        · have h5 := h
          (try simp only [wA hA] at h5)
          (try rw [h]); clear h
          cbv
          (try simp only [ncast] at *)
          obtain ⟨h6, h7, h8⟩ : 0 < o.length ∧ lastI o = o.getD (o.length - 1) 0 ∧ 0 ≤ lastI o := by
            rcases hlast with ⟨h, _⟩ | h
            · rw [h] at hkI; simp at hkI; omega
            · exact h
          have hro : rowM xs p2 y (lastI o) = .ok (lastI o, k2, p3) := by
            unfold rowM
            rw [if_pos h1, if_neg (by omega), if_neg (by omega), hk2, hz, hp3]
          rw [hro] at hstep
          have hstep : M0 = if n - o.length < k2 then .error 4 else liM l xs n (f - 1) p3 (o ++ List.replicate k2.toNat (lastI o)) := hstep
          clear hro
          refine ifT (by simp only [eqlA hA]; simp; exact h1) fun h => ?_
          (try rw [h]); clear h
          cbv
          (try simp only [ncast] at *)
          have e3 : A.bin .sub .i64 kI 1 = kI - 1 := by rw [subA' hA, wrap64 (by omega)]
          simp only [ek, e3]
          refine rdA hA (by omega) (by omega) fun x hx => ?_
          have hx : x = lastI o := by rw [hx, h7]; congr 1; omega
          rw [← hx] at hstep h8
          have hx0 : 0 ≤ x := h8
          clear h7 h8 hlast hx
          cbv
          (try simp only [ncast] at *)
          have e4 : A.bin .sub .i64 n kI = n - kI := by rw [subA' hA, wrap64 (by omega)]
          simp only [ek, e4]
          refine ifB_intro (fun h => ?_) (fun h => ?_)
          · have g4 := h
            (try simp only [wA hA] at g4)
            (try rw [h]); clear h
            cbv
            (try simp only [ncast] at *)
            rw [if_pos (by omega)] at hstep
            subst hA hq
            refine Fin_of ⟨[(6, .lst 3 0), (7, .int .i64 4)], [.box 71 [.sl 1 0 m false, .int .i64 pI3, .int .i64 0], .vw (R.ints .u8 xs), .vw cs, .lst 3 1 (R.ints .i64 [])]⟩ ((Sub_nilT (i := 6) 3 1 rfl).trans ?_) ⟨p3, 0, pI3, 0, 4, [], hP3, .inl ⟨by omega, rfl, by rw [← hM0]; exact hstep⟩, rfl, rfl, rfl⟩
            exact Sc [0, 1, 2, 4] (by repeat' (first | exact trivial | exact fun _ => rfl | exact fun h => absurd h (by simp) | exact subC_ints rfl | exact subC_rw rwC rfl | exact subC_rwv rwC rfl rfl | refine And.intro ?_ ?_ | rfl | (simp [subH_nil, hLts, hLt, renCk, renC, sg, Ck.cells, R_ints_ren, R_ints_hLts]; done)))
          · have g4 := h
            (try simp only [wA hA] at g4)
            (try rw [h]); clear h
            cbv
            (try simp only [ncast] at *)
            rw [if_neg (by omega)] at hstep
            have hf : n ≤ (f : Int) + o.length := hf
            refine ⟨fun kk s => ∃ (i k : Nat) (iI : Int) (us : List Int), iI = i ∧ iI ≤ k2 ∧ us = o ++ List.replicate i x ∧ k = us.length ∧ kk = (k2 - iI).toNat ∧ s = ⟨[(0, .ptr 0 0), (1, .sl 2 0 ln false), (2, .int .i64 n), (8, .lst 3 k), (11, .int .i64 x), (12, .int .i64 k2), (13, .int .i64 iI)],
                  [.box 71 [.sl 1 0 m false, .int .i64 pI3, .int .i64 0], .vw (A.ints .u8 xs), .vw cs, .lst 3 1 (A.ints .i64 us)]⟩,
                ⟨_, ⟨[(0, .ptr 0 0), (1, .sl 2 0 ln false), (2, .int .i64 n), (8, .lst 3 k), (11, .int .i64 x), (12, .int .i64 k2), (13, .int .i64 0)],
                  [.box 71 [.sl 1 0 m false, .int .i64 pI3, .int .i64 0], .vw (A.ints .u8 xs), .vw cs, .lst 3 1 (A.ints .i64 o)]⟩, ?_, 0, k, 0, o, rfl, by omega, by simp, hk, rfl, rfl⟩, ?_⟩
            · subst hA
              exact Sc [0, 1, 2, 3] (by repeat' (first | exact trivial | exact fun _ => rfl | exact fun h => absurd h (by simp) | exact subC_ints rfl | exact subC_rw rwC rfl | exact subC_rwv rwC rfl rfl | refine And.intro ?_ ?_ | rfl | (simp [subH_nil, hLts, hLt, renCk, renC, sg, Ck.cells, R_ints_ren, R_ints_hLts]; done)))
            rintro kk2 _ ⟨i, ku, iI, us, hiI, hik, hus, hku, hkk2, rfl⟩
            have hul : us.length = o.length + i := by rw [hus]; simp
            cbv
            (try simp only [ncast] at *)
            refine ifB_intro (fun h => ?_) (fun h => ?_)
            · have h5 := h
              (try simp only [wA hA] at h5)
              (try rw [h]); clear h
              cbv
              (try simp only [ncast] at *)
              have ha := apdA1 hA .i64 us x
              refine ⟨?_, ?_, ?_⟩
              · subst hA
                show (R.ints .i64 us).length = ku * 1
                rw [R_ints_length]; omega
              · subst hA
                show (ku + 1) * 8 ≤ room
                unfold room; omega
              have e5 : A.bin .add .i64 iI 1 = iI + 1 := by rw [addA hA, wrap64 (by omega)]
              cbv
              (try simp only [ncast] at *)
              simp only [e5]
              subst hag
              refine ⟨(k2 - (iI + 1)).toNat, ⟨[(0, .ptr 0 0), (1, .sl 2 0 ln false), (2, .int .i64 n), (8, .lst 3 (ku + 1)), (11, .int .i64 x), (12, .int .i64 k2), (13, .int .i64 (iI + 1))],
                  [.box 71 [.sl 1 0 m false, .int .i64 pI3, .int .i64 0], .vw (A.ints .u8 xs), .vw cs, .lst 3 1 (A.ints .i64 (us ++ [x]))]⟩, by omega, ?_, i + 1, ku + 1, iI + 1, us ++ [x], by omega, by omega, by rw [hus, List.replicate_succ', List.append_assoc], by simp; omega, rfl, rfl⟩
              subst hA
              exact Sd [0, 1, 2, 5] (by repeat' (first | exact trivial | exact fun _ => rfl | exact fun h => absurd h (by simp) | exact subC_ints rfl | exact subC_ints (congrArg (fun l => some (Ck.lst _ _ l)) ha) | exact subC_rw rwC rfl | exact subC_rwv rwC rfl rfl | refine And.intro ?_ ?_ | rfl | (simp [subH_nil, hLts, hLt, renCk, renC, sg, Ck.cells, R_ints_ren, R_ints_hLts, ha]; done))) (by repeat' (first | exact trivial | exact .inr ⟨trivial, rfl⟩ | exact .inr ⟨by simp [vOk, hLt, hLts, ha], rfl⟩ | refine And.intro ?_ ?_))
            · have h5 := h
              (try simp only [wA hA] at h5)
              (try rw [h]); clear h
              cbv
              (try simp only [ncast] at *)
              have hi2 : i = (k2 : Int).toNat := by omega
              rw [← hi2, ← hus] at hstep
              have hnn2 : ∀ v ∈ us, 0 ≤ v := fun v hv => by
                rw [hus] at hv
                rcases List.mem_append.1 hv with h | h
                · exact hnn v h
                · rw [(List.mem_replicate.1 h).2]; exact hx0
              subst hag
              refine ⟨(n - us.length).toNat, ⟨[(0, .ptr 0 0), (1, .sl 2 0 ln false), (2, .int .i64 n), (8, .lst 3 ku)],
                  [.box 71 [.sl 1 0 m false, .int .i64 pI3, .int .i64 0], .vw (A.ints .u8 xs), .vw cs, .lst 3 1 (A.ints .i64 us)]⟩, by omega, ?_, f - 1, p3, ku, pI3, us, hnn2, hstep, by omega, by omega, hku, hP3, rfl, rfl⟩
              subst hA
              exact Sc [0, 1, 2, 3] (by repeat' (first | exact trivial | exact fun _ => rfl | exact fun h => absurd h (by simp) | exact subC_ints rfl | exact subC_rw rwC rfl | exact subC_rwv rwC rfl rfl | refine And.intro ?_ ?_ | rfl | (simp [subH_nil, hLts, hLt, renCk, renC, sg, Ck.cells, R_ints_ren, R_ints_hLts]; done)))
      · have h1 := h
        (try simp only [wA hA] at h1)
        (try rw [h]); clear h
        cbv
        (try simp only [ncast] at *)
        refine ifB_intro (fun h => ?_) (fun h => ?_)
        · have h3 := h
          (try simp only [wA hA] at h3)
          (try rw [h]); clear h
          cbv
          (try simp only [ncast] at *)
          refine call_rbits hC hA (hb := 0) (hv := 1) (ws := xs) hP2 (by decide) rfl rfl hxs hmx fun p3 pI3 er3 z hP3 hB0 => ?_
          have hB1 := bits0 rfl (by omega) hB0
          clear hB0
          rcases hB1 with ⟨hB, hz, he3, hp3⟩ | ⟨hB, hz, he3, hp3⟩
          · subst he3
            have hro : rowM xs p2 y (lastI o) = .error 3 := by
              have hB : 8 * xs.length < p2 + 3 := hB
              unfold rowM
              rw [if_neg h1, if_pos h3]
              rw [if_pos hB]
            rw [hro] at hstep
            have hstep : M0 = .error 3 := hstep
            clear hB hz hp3 hro
            cbv
            (try simp only [ncast] at *)
            refine ifF (by simp only [eqlA hA]; simp; omega) fun h => ?_
            (try rw [h]); clear h
            cbv
            (try simp only [ncast] at *)
            refine ifT (by simp only [neqA hA]; simp) fun h => ?_
            (try rw [h]); clear h
            cbv
            (try simp only [ncast] at *)
            subst hA hq
            refine Fin_of ⟨[(6, .lst 3 0), (7, .int .i64 3)], [.box 71 [.sl 1 0 m false, .int .i64 pI3, .int .i64 3], .vw (R.ints .u8 xs), .vw cs, .lst 3 1 (R.ints .i64 [])]⟩ ((Sub_nilT (i := 6) 3 1 rfl).trans ?_) ⟨p3, 0, pI3, 3, 3, [], hP3, .inl ⟨by omega, rfl, by rw [← hM0]; exact hstep⟩, rfl, rfl, rfl⟩
            exact Sc [0, 1, 2, 4] (by repeat' (first | exact trivial | exact fun _ => rfl | exact fun h => absurd h (by simp) | exact subC_ints rfl | exact subC_rw rwC rfl | exact subC_rwv rwC rfl rfl | refine And.intro ?_ ?_ | rfl | (simp [subH_nil, hLts, hLt, renCk, renC, sg, Ck.cells, R_ints_ren, R_ints_hLts]; done)))
          subst he3
          have hB : p2 + 3 ≤ 8 * xs.length := hB
          have hz : z = cut (V xs) p2 3 := hz
          have hp3 : p3 = p2 + 3 := hp3
          have hcb := cut_b (V xs) p2 (n := 3)
          rw [← hz] at hcb
          have hcb : 0 ≤ z ∧ z < 128 := by
            have : (2 : Int) ^ 3 ≤ 2 ^ 7 := by exact_mod_cast Nat.pow_le_pow_right (by decide) (by decide)
            have e7 : (2 : Int) ^ 7 = 128 := rfl
            omega
          have e1 : A.wrap .i64 z = z := by rw [wrapA hA, wrap64 (by omega)]
          obtain ⟨k2, hk2⟩ : ∃ v, v = 3 + z := ⟨_, rfl⟩
          have e2 : A.bin .add .i64 3 z = k2 := by rw [addA hA, wrap64 (by omega), hk2]
          cbv
          (try simp only [ncast] at *)
          simp only [e1, e2]
          refine ifF (by simp only [eqlA hA]; simp; omega) fun h => ?_
          (try rw [h]); clear h
          cbv
          (try simp only [ncast] at *)
          refine ifF (by simp only [neqA hA]; simp) fun h => ?_
          (try rw [h]); clear h
          cbv
          (try simp only [ncast] at *)
          have hro : rowM xs p2 y (lastI o) = .ok (0, k2, p3) := by
            unfold rowM
            rw [if_neg h1, if_pos h3, if_neg (by omega), hk2, hz, hp3]
          rw [hro] at hstep
          have hstep : M0 = if n - o.length < k2 then .error 4 else liM l xs n (f - 1) p3 (o ++ List.replicate (k2 : Int).toNat 0) := hstep
          clear hro hlast
          have hx0 : (0 : Int) ≤ 0 := by omega
          refine ifF (by simp only [eqlA hA]; simp; exact h1) fun h => ?_
          (try rw [h]); clear h
          cbv
          (try simp only [ncast] at *)
          refine ifF (by simp only [eqlA hA]; simp; exact h1) fun h => ?_
          (try rw [h]); clear h
          cbv
          (try simp only [ncast] at *)
          cbv
          (try simp only [ncast] at *)
          have e4 : A.bin .sub .i64 n kI = n - kI := by rw [subA' hA, wrap64 (by omega)]
          simp only [ek, e4]
          refine ifB_intro (fun h => ?_) (fun h => ?_)
          · have g4 := h
            (try simp only [wA hA] at g4)
            (try rw [h]); clear h
            cbv
            (try simp only [ncast] at *)
            rw [if_pos (by omega)] at hstep
            subst hA hq
            refine Fin_of ⟨[(6, .lst 3 0), (7, .int .i64 4)], [.box 71 [.sl 1 0 m false, .int .i64 pI3, .int .i64 0], .vw (R.ints .u8 xs), .vw cs, .lst 3 1 (R.ints .i64 [])]⟩ ((Sub_nilT (i := 6) 3 1 rfl).trans ?_) ⟨p3, 0, pI3, 0, 4, [], hP3, .inl ⟨by omega, rfl, by rw [← hM0]; exact hstep⟩, rfl, rfl, rfl⟩
            exact Sc [0, 1, 2, 4] (by repeat' (first | exact trivial | exact fun _ => rfl | exact fun h => absurd h (by simp) | exact subC_ints rfl | exact subC_rw rwC rfl | exact subC_rwv rwC rfl rfl | refine And.intro ?_ ?_ | rfl | (simp [subH_nil, hLts, hLt, renCk, renC, sg, Ck.cells, R_ints_ren, R_ints_hLts]; done)))
          · have g4 := h
            (try simp only [wA hA] at g4)
            (try rw [h]); clear h
            cbv
            (try simp only [ncast] at *)
            rw [if_neg (by omega)] at hstep
            have hf : n ≤ (f : Int) + o.length := hf
            refine ⟨fun kk s => ∃ (i k : Nat) (iI : Int) (us : List Int), iI = i ∧ iI ≤ k2 ∧ us = o ++ List.replicate i 0 ∧ k = us.length ∧ kk = (k2 - iI).toNat ∧ s = ⟨[(0, .ptr 0 0), (1, .sl 2 0 ln false), (2, .int .i64 n), (8, .lst 3 k), (11, .int .i64 0), (12, .int .i64 k2), (13, .int .i64 iI)],
                  [.box 71 [.sl 1 0 m false, .int .i64 pI3, .int .i64 0], .vw (A.ints .u8 xs), .vw cs, .lst 3 1 (A.ints .i64 us)]⟩,
                ⟨_, ⟨[(0, .ptr 0 0), (1, .sl 2 0 ln false), (2, .int .i64 n), (8, .lst 3 k), (11, .int .i64 0), (12, .int .i64 k2), (13, .int .i64 0)],
                  [.box 71 [.sl 1 0 m false, .int .i64 pI3, .int .i64 0], .vw (A.ints .u8 xs), .vw cs, .lst 3 1 (A.ints .i64 o)]⟩, ?_, 0, k, 0, o, rfl, by omega, by simp, hk, rfl, rfl⟩, ?_⟩
            · subst hA
              exact Sc [0, 1, 2, 3] (by repeat' (first | exact trivial | exact fun _ => rfl | exact fun h => absurd h (by simp) | exact subC_ints rfl | exact subC_rw rwC rfl | exact subC_rwv rwC rfl rfl | refine And.intro ?_ ?_ | rfl | (simp [subH_nil, hLts, hLt, renCk, renC, sg, Ck.cells, R_ints_ren, R_ints_hLts]; done)))
            rintro kk2 _ ⟨i, ku, iI, us, hiI, hik, hus, hku, hkk2, rfl⟩
            have hul : us.length = o.length + i := by rw [hus]; simp
            cbv
            (try simp only [ncast] at *)
            refine ifB_intro (fun h => ?_) (fun h => ?_)
            · have h5 := h
              (try simp only [wA hA] at h5)
              (try rw [h]); clear h
              cbv
              (try simp only [ncast] at *)
              have ha := apdA1 hA .i64 us 0
              refine ⟨?_, ?_, ?_⟩
              · subst hA
                show (R.ints .i64 us).length = ku * 1
                rw [R_ints_length]; omega
              · subst hA
                show (ku + 1) * 8 ≤ room
                unfold room; omega
              have e5 : A.bin .add .i64 iI 1 = iI + 1 := by rw [addA hA, wrap64 (by omega)]
              cbv
              (try simp only [ncast] at *)
              simp only [e5]
              subst hag
              refine ⟨(k2 - (iI + 1)).toNat, ⟨[(0, .ptr 0 0), (1, .sl 2 0 ln false), (2, .int .i64 n), (8, .lst 3 (ku + 1)), (11, .int .i64 0), (12, .int .i64 k2), (13, .int .i64 (iI + 1))],
                  [.box 71 [.sl 1 0 m false, .int .i64 pI3, .int .i64 0], .vw (A.ints .u8 xs), .vw cs, .lst 3 1 (A.ints .i64 (us ++ [0]))]⟩, by omega, ?_, i + 1, ku + 1, iI + 1, us ++ [0], by omega, by omega, by rw [hus, List.replicate_succ', List.append_assoc], by simp; omega, rfl, rfl⟩
              subst hA
              exact Sd [0, 1, 2, 5] (by repeat' (first | exact trivial | exact fun _ => rfl | exact fun h => absurd h (by simp) | exact subC_ints rfl | exact subC_ints (congrArg (fun l => some (Ck.lst _ _ l)) ha) | exact subC_rw rwC rfl | exact subC_rwv rwC rfl rfl | refine And.intro ?_ ?_ | rfl | (simp [subH_nil, hLts, hLt, renCk, renC, sg, Ck.cells, R_ints_ren, R_ints_hLts, ha]; done))) (by repeat' (first | exact trivial | exact .inr ⟨trivial, rfl⟩ | exact .inr ⟨by simp [vOk, hLt, hLts, ha], rfl⟩ | refine And.intro ?_ ?_))
            · have h5 := h
              (try simp only [wA hA] at h5)
              (try rw [h]); clear h
              cbv
              (try simp only [ncast] at *)
              have hi2 : i = (k2 : Int).toNat := by omega
              rw [← hi2, ← hus] at hstep
              have hnn2 : ∀ v ∈ us, 0 ≤ v := fun v hv => by
                rw [hus] at hv
                rcases List.mem_append.1 hv with h | h
                · exact hnn v h
                · rw [(List.mem_replicate.1 h).2]; exact hx0
              subst hag
              refine ⟨(n - us.length).toNat, ⟨[(0, .ptr 0 0), (1, .sl 2 0 ln false), (2, .int .i64 n), (8, .lst 3 ku)],
                  [.box 71 [.sl 1 0 m false, .int .i64 pI3, .int .i64 0], .vw (A.ints .u8 xs), .vw cs, .lst 3 1 (A.ints .i64 us)]⟩, by omega, ?_, f - 1, p3, ku, pI3, us, hnn2, hstep, by omega, by omega, hku, hP3, rfl, rfl⟩
              subst hA
              exact Sc [0, 1, 2, 3] (by repeat' (first | exact trivial | exact fun _ => rfl | exact fun h => absurd h (by simp) | exact subC_ints rfl | exact subC_rw rwC rfl | exact subC_rwv rwC rfl rfl | refine And.intro ?_ ?_ | rfl | (simp [subH_nil, hLts, hLt, renCk, renC, sg, Ck.cells, R_ints_ren, R_ints_hLts]; done)))
        · have h3 := h
          (try simp only [wA hA] at h3)
          (try rw [h]); clear h
          cbv
          (try simp only [ncast] at *)
          refine ifB_intro (fun h => ?_) (fun h => ?_)
          · have h4 := h
            (try simp only [wA hA] at h4)
            (try rw [h]); clear h
            cbv
            (try simp only [ncast] at *)
            refine call_rbits hC hA (hb := 0) (hv := 1) (ws := xs) hP2 (by decide) rfl rfl hxs hmx fun p3 pI3 er3 z hP3 hB0 => ?_
            have hB1 := bits0 rfl (by omega) hB0
            clear hB0
            rcases hB1 with ⟨hB, hz, he3, hp3⟩ | ⟨hB, hz, he3, hp3⟩
            · subst he3
              have hro : rowM xs p2 y (lastI o) = .error 3 := by
                have hB : 8 * xs.length < p2 + 7 := hB
                unfold rowM
                rw [if_neg h1, if_neg h3, if_pos h4]
                rw [if_pos hB]
              rw [hro] at hstep
              have hstep : M0 = .error 3 := hstep
              clear hB hz hp3 hro
              cbv
              (try simp only [ncast] at *)
              skip
              refine ifT (by simp only [neqA hA]; simp) fun h => ?_
              (try rw [h]); clear h
              cbv
              (try simp only [ncast] at *)
              subst hA hq
              refine Fin_of ⟨[(6, .lst 3 0), (7, .int .i64 3)], [.box 71 [.sl 1 0 m false, .int .i64 pI3, .int .i64 3], .vw (R.ints .u8 xs), .vw cs, .lst 3 1 (R.ints .i64 [])]⟩ ((Sub_nilT (i := 6) 3 1 rfl).trans ?_) ⟨p3, 0, pI3, 3, 3, [], hP3, .inl ⟨by omega, rfl, by rw [← hM0]; exact hstep⟩, rfl, rfl, rfl⟩
              exact Sc [0, 1, 2, 4] (by repeat' (first | exact trivial | exact fun _ => rfl | exact fun h => absurd h (by simp) | exact subC_ints rfl | exact subC_rw rwC rfl | exact subC_rwv rwC rfl rfl | refine And.intro ?_ ?_ | rfl | (simp [subH_nil, hLts, hLt, renCk, renC, sg, Ck.cells, R_ints_ren, R_ints_hLts]; done)))
            subst he3
            have hB : p2 + 7 ≤ 8 * xs.length := hB
            have hz : z = cut (V xs) p2 7 := hz
            have hp3 : p3 = p2 + 7 := hp3
            have hcb := cut_b (V xs) p2 (n := 7)
            rw [← hz] at hcb
            have hcb : 0 ≤ z ∧ z < 128 := by
              have : (2 : Int) ^ 7 ≤ 2 ^ 7 := by exact_mod_cast Nat.pow_le_pow_right (by decide) (by decide)
              have e7 : (2 : Int) ^ 7 = 128 := rfl
              omega
            have e1 : A.wrap .i64 z = z := by rw [wrapA hA, wrap64 (by omega)]
            obtain ⟨k2, hk2⟩ : ∃ v, v = 11 + z := ⟨_, rfl⟩
            have e2 : A.bin .add .i64 11 z = k2 := by rw [addA hA, wrap64 (by omega), hk2]
            cbv
            (try simp only [ncast] at *)
            simp only [e1, e2]
            refine ifF (by simp only [neqA hA]; simp) fun h => ?_
            (try rw [h]); clear h
            cbv
            (try simp only [ncast] at *)
            have hro : rowM xs p2 y (lastI o) = .ok (0, k2, p3) := by
              unfold rowM
              rw [if_neg h1, if_neg h3, if_pos h4, if_neg (by omega), hk2, hz, hp3]
            rw [hro] at hstep
            have hstep : M0 = if n - o.length < k2 then .error 4 else liM l xs n (f - 1) p3 (o ++ List.replicate (k2 : Int).toNat 0) := hstep
            clear hro hlast
            have hx0 : (0 : Int) ≤ 0 := by omega
            refine ifF (by simp only [eqlA hA]; simp; exact h1) fun h => ?_
            (try rw [h]); clear h
            cbv
            (try simp only [ncast] at *)
            refine ifF (by simp only [eqlA hA]; simp; exact h1) fun h => ?_
            (try rw [h]); clear h
            cbv
            (try simp only [ncast] at *)
            cbv
            (try simp only [ncast] at *)
            have e4 : A.bin .sub .i64 n kI = n - kI := by rw [subA' hA, wrap64 (by omega)]
            simp only [ek, e4]
            refine ifB_intro (fun h => ?_) (fun h => ?_)
            · have g4 := h
              (try simp only [wA hA] at g4)
              (try rw [h]); clear h
              cbv
              (try simp only [ncast] at *)
              rw [if_pos (by omega)] at hstep
              subst hA hq
              refine Fin_of ⟨[(6, .lst 3 0), (7, .int .i64 4)], [.box 71 [.sl 1 0 m false, .int .i64 pI3, .int .i64 0], .vw (R.ints .u8 xs), .vw cs, .lst 3 1 (R.ints .i64 [])]⟩ ((Sub_nilT (i := 6) 3 1 rfl).trans ?_) ⟨p3, 0, pI3, 0, 4, [], hP3, .inl ⟨by omega, rfl, by rw [← hM0]; exact hstep⟩, rfl, rfl, rfl⟩
              exact Sc [0, 1, 2, 4] (by repeat' (first | exact trivial | exact fun _ => rfl | exact fun h => absurd h (by simp) | exact subC_ints rfl | exact subC_rw rwC rfl | exact subC_rwv rwC rfl rfl | refine And.intro ?_ ?_ | rfl | (simp [subH_nil, hLts, hLt, renCk, renC, sg, Ck.cells, R_ints_ren, R_ints_hLts]; done)))
            · have g4 := h
              (try simp only [wA hA] at g4)
              (try rw [h]); clear h
              cbv
              (try simp only [ncast] at *)
              rw [if_neg (by omega)] at hstep
              have hf : n ≤ (f : Int) + o.length := hf
              refine ⟨fun kk s => ∃ (i k : Nat) (iI : Int) (us : List Int), iI = i ∧ iI ≤ k2 ∧ us = o ++ List.replicate i 0 ∧ k = us.length ∧ kk = (k2 - iI).toNat ∧ s = ⟨[(0, .ptr 0 0), (1, .sl 2 0 ln false), (2, .int .i64 n), (8, .lst 3 k), (11, .int .i64 0), (12, .int .i64 k2), (13, .int .i64 iI)],
                    [.box 71 [.sl 1 0 m false, .int .i64 pI3, .int .i64 0], .vw (A.ints .u8 xs), .vw cs, .lst 3 1 (A.ints .i64 us)]⟩,
                  ⟨_, ⟨[(0, .ptr 0 0), (1, .sl 2 0 ln false), (2, .int .i64 n), (8, .lst 3 k), (11, .int .i64 0), (12, .int .i64 k2), (13, .int .i64 0)],
                    [.box 71 [.sl 1 0 m false, .int .i64 pI3, .int .i64 0], .vw (A.ints .u8 xs), .vw cs, .lst 3 1 (A.ints .i64 o)]⟩, ?_, 0, k, 0, o, rfl, by omega, by simp, hk, rfl, rfl⟩, ?_⟩
              · subst hA
                exact Sc [0, 1, 2, 3] (by repeat' (first | exact trivial | exact fun _ => rfl | exact fun h => absurd h (by simp) | exact subC_ints rfl | exact subC_rw rwC rfl | exact subC_rwv rwC rfl rfl | refine And.intro ?_ ?_ | rfl | (simp [subH_nil, hLts, hLt, renCk, renC, sg, Ck.cells, R_ints_ren, R_ints_hLts]; done)))
              rintro kk2 _ ⟨i, ku, iI, us, hiI, hik, hus, hku, hkk2, rfl⟩
              have hul : us.length = o.length + i := by rw [hus]; simp
              cbv
              (try simp only [ncast] at *)
              refine ifB_intro (fun h => ?_) (fun h => ?_)
              · have h5 := h
                (try simp only [wA hA] at h5)
                (try rw [h]); clear h
                cbv
                (try simp only [ncast] at *)
                have ha := apdA1 hA .i64 us 0
                refine ⟨?_, ?_, ?_⟩
                · subst hA
                  show (R.ints .i64 us).length = ku * 1
                  rw [R_ints_length]; omega
                · subst hA
                  show (ku + 1) * 8 ≤ room
                  unfold room; omega
                have e5 : A.bin .add .i64 iI 1 = iI + 1 := by rw [addA hA, wrap64 (by omega)]
                cbv
                (try simp only [ncast] at *)
                simp only [e5]
                subst hag
                refine ⟨(k2 - (iI + 1)).toNat, ⟨[(0, .ptr 0 0), (1, .sl 2 0 ln false), (2, .int .i64 n), (8, .lst 3 (ku + 1)), (11, .int .i64 0), (12, .int .i64 k2), (13, .int .i64 (iI + 1))],
                    [.box 71 [.sl 1 0 m false, .int .i64 pI3, .int .i64 0], .vw (A.ints .u8 xs), .vw cs, .lst 3 1 (A.ints .i64 (us ++ [0]))]⟩, by omega, ?_, i + 1, ku + 1, iI + 1, us ++ [0], by omega, by omega, by rw [hus, List.replicate_succ', List.append_assoc], by simp; omega, rfl, rfl⟩
                subst hA
                exact Sd [0, 1, 2, 5] (by repeat' (first | exact trivial | exact fun _ => rfl | exact fun h => absurd h (by simp) | exact subC_ints rfl | exact subC_ints (congrArg (fun l => some (Ck.lst _ _ l)) ha) | exact subC_rw rwC rfl | exact subC_rwv rwC rfl rfl | refine And.intro ?_ ?_ | rfl | (simp [subH_nil, hLts, hLt, renCk, renC, sg, Ck.cells, R_ints_ren, R_ints_hLts, ha]; done))) (by repeat' (first | exact trivial | exact .inr ⟨trivial, rfl⟩ | exact .inr ⟨by simp [vOk, hLt, hLts, ha], rfl⟩ | refine And.intro ?_ ?_))
              · have h5 := h
                (try simp only [wA hA] at h5)
                (try rw [h]); clear h
                cbv
                (try simp only [ncast] at *)
                have hi2 : i = (k2 : Int).toNat := by omega
                rw [← hi2, ← hus] at hstep
                have hnn2 : ∀ v ∈ us, 0 ≤ v := fun v hv => by
                  rw [hus] at hv
                  rcases List.mem_append.1 hv with h | h
                  · exact hnn v h
                  · rw [(List.mem_replicate.1 h).2]; exact hx0
                subst hag
                refine ⟨(n - us.length).toNat, ⟨[(0, .ptr 0 0), (1, .sl 2 0 ln false), (2, .int .i64 n), (8, .lst 3 ku)],
                    [.box 71 [.sl 1 0 m false, .int .i64 pI3, .int .i64 0], .vw (A.ints .u8 xs), .vw cs, .lst 3 1 (A.ints .i64 us)]⟩, by omega, ?_, f - 1, p3, ku, pI3, us, hnn2, hstep, by omega, by omega, hku, hP3, rfl, rfl⟩
                subst hA
                exact Sc [0, 1, 2, 3] (by repeat' (first | exact trivial | exact fun _ => rfl | exact fun h => absurd h (by simp) | exact subC_ints rfl | exact subC_rw rwC rfl | exact subC_rwv rwC rfl rfl | refine And.intro ?_ ?_ | rfl | (simp [subH_nil, hLts, hLt, renCk, renC, sg, Ck.cells, R_ints_ren, R_ints_hLts]; done)))
          · have h4 := h
            (try simp only [wA hA] at h4)
            (try rw [h]); clear h
            cbv
            (try simp only [ncast] at *)
            refine ifF (by simp only [neqA hA]; simp) fun h => ?_
            (try rw [h]); clear h
            cbv
            (try simp only [ncast] at *)
            have hro : rowM xs p2 y (lastI o) = .ok (y, 1, p2) := by
              unfold rowM
              rw [if_neg h1, if_neg h3, if_neg h4]
            rw [hro] at hstep
            have hstep : M0 = if n - o.length < 1 then .error 4 else liM l xs n (f - 1) p2 (o ++ List.replicate (1 : Int).toNat y) := hstep
            clear hro hlast
            have hx0 : (0 : Int) ≤ y := by omega
            refine ifF (by simp only [eqlA hA]; simp; exact h1) fun h => ?_
            (try rw [h]); clear h
            cbv
            (try simp only [ncast] at *)
            refine ifF (by simp only [eqlA hA]; simp; exact h1) fun h => ?_
            (try rw [h]); clear h
            cbv
            (try simp only [ncast] at *)
            cbv
            (try simp only [ncast] at *)
            have e4 : A.bin .sub .i64 n kI = n - kI := by rw [subA' hA, wrap64 (by omega)]
            simp only [ek, e4]
            refine ifB_intro (fun h => ?_) (fun h => ?_)
            · have g4 := h
              (try simp only [wA hA] at g4)
              (try rw [h]); clear h
              cbv
              (try simp only [ncast] at *)
              rw [if_pos (by omega)] at hstep
              subst hA hq
              refine Fin_of ⟨[(6, .lst 3 0), (7, .int .i64 4)], [.box 71 [.sl 1 0 m false, .int .i64 pI2, .int .i64 0], .vw (R.ints .u8 xs), .vw cs, .lst 3 1 (R.ints .i64 [])]⟩ ((Sub_nilT (i := 6) 3 1 rfl).trans ?_) ⟨p2, 0, pI2, 0, 4, [], hP2, .inl ⟨by omega, rfl, by rw [← hM0]; exact hstep⟩, rfl, rfl, rfl⟩
              exact Sc [0, 1, 2, 4] (by repeat' (first | exact trivial | exact fun _ => rfl | exact fun h => absurd h (by simp) | exact subC_ints rfl | exact subC_rw rwC rfl | exact subC_rwv rwC rfl rfl | refine And.intro ?_ ?_ | rfl | (simp [subH_nil, hLts, hLt, renCk, renC, sg, Ck.cells, R_ints_ren, R_ints_hLts]; done)))
            · have g4 := h
              (try simp only [wA hA] at g4)
              (try rw [h]); clear h
              cbv
              (try simp only [ncast] at *)
              rw [if_neg (by omega)] at hstep
              have hf : n ≤ (f : Int) + o.length := hf
              refine ⟨fun kk s => ∃ (i k : Nat) (iI : Int) (us : List Int), iI = i ∧ iI ≤ 1 ∧ us = o ++ List.replicate i y ∧ k = us.length ∧ kk = (1 - iI).toNat ∧ s = ⟨[(0, .ptr 0 0), (1, .sl 2 0 ln false), (2, .int .i64 n), (8, .lst 3 k), (11, .int .i64 y), (12, .int .i64 1), (13, .int .i64 iI)],
                    [.box 71 [.sl 1 0 m false, .int .i64 pI2, .int .i64 0], .vw (A.ints .u8 xs), .vw cs, .lst 3 1 (A.ints .i64 us)]⟩,
                  ⟨_, ⟨[(0, .ptr 0 0), (1, .sl 2 0 ln false), (2, .int .i64 n), (8, .lst 3 k), (11, .int .i64 y), (12, .int .i64 1), (13, .int .i64 0)],
                    [.box 71 [.sl 1 0 m false, .int .i64 pI2, .int .i64 0], .vw (A.ints .u8 xs), .vw cs, .lst 3 1 (A.ints .i64 o)]⟩, ?_, 0, k, 0, o, rfl, by omega, by simp, hk, rfl, rfl⟩, ?_⟩
              · subst hA
                exact Sc [0, 1, 2, 3] (by repeat' (first | exact trivial | exact fun _ => rfl | exact fun h => absurd h (by simp) | exact subC_ints rfl | exact subC_rw rwC rfl | exact subC_rwv rwC rfl rfl | refine And.intro ?_ ?_ | rfl | (simp [subH_nil, hLts, hLt, renCk, renC, sg, Ck.cells, R_ints_ren, R_ints_hLts]; done)))
              rintro kk2 _ ⟨i, ku, iI, us, hiI, hik, hus, hku, hkk2, rfl⟩
              have hul : us.length = o.length + i := by rw [hus]; simp
              cbv
              (try simp only [ncast] at *)
              refine ifB_intro (fun h => ?_) (fun h => ?_)
              · have h5 := h
                (try simp only [wA hA] at h5)
                (try rw [h]); clear h
                cbv
                (try simp only [ncast] at *)
                have ha := apdA1 hA .i64 us y
                refine ⟨?_, ?_, ?_⟩
                · subst hA
                  show (R.ints .i64 us).length = ku * 1
                  rw [R_ints_length]; omega
                · subst hA
                  show (ku + 1) * 8 ≤ room
                  unfold room; omega
                have e5 : A.bin .add .i64 iI 1 = iI + 1 := by rw [addA hA, wrap64 (by omega)]
                cbv
                (try simp only [ncast] at *)
                simp only [e5]
                subst hag
                refine ⟨(1 - (iI + 1)).toNat, ⟨[(0, .ptr 0 0), (1, .sl 2 0 ln false), (2, .int .i64 n), (8, .lst 3 (ku + 1)), (11, .int .i64 y), (12, .int .i64 1), (13, .int .i64 (iI + 1))],
                    [.box 71 [.sl 1 0 m false, .int .i64 pI2, .int .i64 0], .vw (A.ints .u8 xs), .vw cs, .lst 3 1 (A.ints .i64 (us ++ [y]))]⟩, by omega, ?_, i + 1, ku + 1, iI + 1, us ++ [y], by omega, by omega, by rw [hus, List.replicate_succ', List.append_assoc], by simp; omega, rfl, rfl⟩
                subst hA
                exact Sd [0, 1, 2, 5] (by repeat' (first | exact trivial | exact fun _ => rfl | exact fun h => absurd h (by simp) | exact subC_ints rfl | exact subC_ints (congrArg (fun l => some (Ck.lst _ _ l)) ha) | exact subC_rw rwC rfl | exact subC_rwv rwC rfl rfl | refine And.intro ?_ ?_ | rfl | (simp [subH_nil, hLts, hLt, renCk, renC, sg, Ck.cells, R_ints_ren, R_ints_hLts, ha]; done))) (by repeat' (first | exact trivial | exact .inr ⟨trivial, rfl⟩ | exact .inr ⟨by simp [vOk, hLt, hLts, ha], rfl⟩ | refine And.intro ?_ ?_))
              · have h5 := h
                (try simp only [wA hA] at h5)
                (try rw [h]); clear h
                cbv
                (try simp only [ncast] at *)
                have hi2 : i = (1 : Int).toNat := by omega
                rw [← hi2, ← hus] at hstep
                have hnn2 : ∀ v ∈ us, 0 ≤ v := fun v hv => by
                  rw [hus] at hv
                  rcases List.mem_append.1 hv with h | h
                  · exact hnn v h
                  · rw [(List.mem_replicate.1 h).2]; exact hx0
                subst hag
                refine ⟨(n - us.length).toNat, ⟨[(0, .ptr 0 0), (1, .sl 2 0 ln false), (2, .int .i64 n), (8, .lst 3 ku)],
                    [.box 71 [.sl 1 0 m false, .int .i64 pI2, .int .i64 0], .vw (A.ints .u8 xs), .vw cs, .lst 3 1 (A.ints .i64 us)]⟩, by omega, ?_, f - 1, p2, ku, pI2, us, hnn2, hstep, by omega, by omega, hku, hP2, rfl, rfl⟩
                subst hA
                exact Sc [0, 1, 2, 3] (by repeat' (first | exact trivial | exact fun _ => rfl | exact fun h => absurd h (by simp) | exact subC_ints rfl | exact subC_rw rwC rfl | exact subC_rwv rwC rfl rfl | refine And.intro ?_ ?_ | rfl | (simp [subH_nil, hLts, hLt, renCk, renC, sg, Ck.cells, R_ints_ren, R_ints_hLts]; done)))
  · have hge := h
    (try simp only [wA hA] at hge)
    (try rw [h]); clear h
    cbv
    (try simp only [ncast] at *)
    have hM : M0 = .ok (o, p1) := by rw [hM, liM_end (by omega)]
    subst hA hq
    refine Fin_of ⟨[(6, .lst 3 k), (7, .int .i64 0)], [.box 71 [.sl 1 0 m false, .int .i64 pI1, .int .i64 0], .vw (R.ints .u8 xs), .vw cs, .lst 3 1 (R.ints .i64 o)]⟩ ?_ ⟨p1, k, pI1, 0, 0, o, hP, .inr ⟨rfl, rfl, by omega, by rw [← hM0]; exact hM⟩, hk, rfl, rfl⟩
    exact Sc [0, 1, 2, 3] (by repeat' (first | exact trivial | exact fun _ => rfl | exact fun h => absurd h (by simp) | exact subC_ints rfl | exact subC_rw rwC rfl | exact subC_rwv rwC rfl rfl | refine And.intro ?_ ?_ | rfl | (simp [subH_nil, hLts, hLt, renCk, renC, sg, Ck.cells, R_ints_ren, R_ints_hLts]; done)))
end Go.Sx

/- dyn: calls of the document's lists, Right. -/
set_option maxRecDepth 100000
set_option maxHeartbeats 4000000
set_option linter.unusedVariables false
set_option linter.unusedSimpArgs false
namespace Go.Sx
open Go.Proofs.Tryd

section
variable {A : Ar} {C : CallT} {s : St} {κ : List Nat → SV → List Ck → Prop}
theorem call_rright17 (hC : C = CallX prog) (hA : A = R) {lit dist : List Int} {h1 o1 h2 o2 a b : Nat} {large : Bool} (ha : a = lit.length) (hb : b = dist.length) (hl : lit.length ≤ 1000000) (hd : dist.length ≤ 1000000)
    (h4 : cellsAt s.H h1 o1 a = some (A.ints .i64 lit)) (h5 : cellsAt s.H h2 o2 b = some (A.ints .i64 dist)) {av : List SV} (hav : argsOk 2 (linkOf s.H.length [(h1, o1, false), (h2, o2, false)]) [.sl 0 0 a false, .sl 1 0 b false, .bool large] av)
    (hk : ∀ t, RgQ lit dist large t → κ [] (.bool t) s.H) : C 20 av s κ := by
  have hS := s_rright17 lit dist a b large ha hb hl hd
  rw [← hA] at hS
  refine cal_of hC hS [(h1, o1, false), (h2, o2, false)] ⟨by simp, by simp, trivial⟩ ⟨hLtsA hA .., zOksA hA .., ?_, hLtsA hA .., zOksA hA .., ?_, trivial⟩ hav ?_
  · rw [renA hA, A_ints_len hA, ← ha]; exact h4
  · rw [renA hA, A_ints_len hA, ← hb]; exact h5
  rintro _ _ ⟨t, h1, rfl, rfl⟩
  refine ⟨_, _, s.H, rfl, rfl, ?_, hk t h1⟩
  simp [backH, setAll]
end
end Go.Sx

/- dyn: Read: the contract. -/
set_option maxRecDepth 100000
set_option maxHeartbeats 4000000
set_option linter.unusedVariables false
set_option linter.unusedSimpArgs false
namespace Go.Sx
open Go.Proofs.Tryd

theorem win_cells {A : Ar} (hA : A = R) {H : List Ck} {h o k T sz : Nat} {xs ys : List Int} {ik : IntKind} (h4 : H[h]? = some (.lst T sz (A.ints ik xs))) (hy : ys = (xs.drop o).take k) (hk : o + k ≤ xs.length) : cellsAt H h o k = some (A.ints ik ys) := by
  subst hA hy
  rw [cellsAt_eq h4 (by show o + k ≤ (R.ints ik xs).length; rw [R_ints_length]; omega)]
  show some (((ints ik xs).drop o).take k) = some (ints ik ((xs.drop o).take k))
  unfold ints
  rw [List.map_take, List.map_drop]
section
variable {A : Ar} {C : CallT} {s : St} {κ : List Nat → SV → List Ck → Prop}
theorem call_right17 (hC : C = CallX prog) (hA : A = R) {lit dist : List Int} {h1 o1 h2 o2 a b : Nat} {large : Bool} (ha : a = lit.length) (hb : b = dist.length) (hl : lit.length ≤ 1000000) (hd : dist.length ≤ 1000000)
    (h4 : cellsAt s.H h1 o1 a = some (A.ints .i64 lit)) (h5 : cellsAt s.H h2 o2 b = some (A.ints .i64 dist)) {av : List SV} (hav : argsOk 2 (linkOf s.H.length [(h1, o1, false), (h2, o2, false)]) [.sl 0 0 a false, .sl 1 0 b false, .bool large] av)
    (hk : ∀ t, RgQ lit dist large t → κ [] (.bool t) s.H) : C 72 av s κ := by
  have hS := s_right17 lit dist a b large ha hb hl hd
  rw [← hA] at hS
  refine cal_of hC hS [(h1, o1, false), (h2, o2, false)] ⟨by simp, by simp, trivial⟩ ⟨hLtsA hA .., zOksA hA .., ?_, hLtsA hA .., zOksA hA .., ?_, trivial⟩ hav ?_
  · rw [renA hA, A_ints_len hA, ← ha]; exact h4
  · rw [renA hA, A_ints_len hA, ← hb]; exact h5
  rintro _ _ ⟨t, h1, rfl, rfl⟩
  refine ⟨_, _, s.H, rfl, rfl, ?_, hk t h1⟩
  simp [backH, setAll]
end

def RdQ (xs : List Int) (p : Nat) (large : Bool) (lit dist : List Int) (e : Int) (p' : Nat) (er' : Int) : Prop := (e ≠ 0 ∧ rdD xs p large = .error e) ∨ (e = 0 ∧ er' = 0 ∧ RgP lit dist large ∧ rdD xs p large = .ok (lit, dist, p'))
theorem s_dread [Γ : Gam] (hO : OrdK) (xs : List Int) (m p a b : Nat) (at_ hold nb : Int) (large : Bool) (hx : RX xs m) (hF : RF xs p a b at_ hold nb) :
    Spec prog 51 [.ptr 0 0, .bool large] (RdH R m at_ hold nb 0 xs) (fun r H => ∃ (a b p' ka kb : Nat) (at_ hold nb er' e : Int) (lit dist : List Int), RF xs p' a b at_ hold nb ∧ RdQ xs p large lit dist e p' er' ∧
      ((e ≠ 0 ∧ r = .tup [.nilS, .nilS, .int .i64 e] ∧ H = RdH R m at_ hold nb er' xs ++ [.gone]) ∨ (e = 0 ∧ ka = lit.length ∧ kb = dist.length ∧ r = .tup [.sl 2 0 ka true, .sl 2 ka kb false, .int .i64 0] ∧ H = RdH R m at_ hold nb er' xs ++ [.lst 3 1 (R.ints .i64 (lit ++ dist))]))) := by
  refine Spec_of_kF (D := fun i => if i = 12 then (7, []) else if i = 14 then (8, []) else (0, [])) (ks := [0, 1, 4, 5, 6, 7, 8, 9, 10, 11, 12]) tok mixed (fn := f51) rfl rfl rfl (by kernel_rfl) (N := 77) rfl (rs := [.tmp 4, .tmp 5, .tmp 6]) rfl (Nat.le_of_ble_eq_true rfl) fun A C Kp E ag L q hA hC hK hE hag hL hq => ?_
  rw [← hA]
  unfold RdH
  cbv
  (try simp only [ncast] at *)
  refine toC hC (call_bits rfl hA (hb := 0) (hr := 1) (n := 5) hx hF (by decide) rfl rfl fun a1 b1 p1 at1 hold1 nb1 er1 z1 hF1 hB1 => ?_)
  have h1 : (8 * xs.length < p + 5 ∧ er1 = 3) ∨ (p + 5 ≤ 8 * xs.length ∧ z1 = cut (V xs) p 5 ∧ er1 = 0 ∧ p1 = p + 5) := by
    rcases bits0 rfl (by omega) hB1 with h | h
    · exact .inl ⟨h.1, h.2.2.1⟩
    · exact .inr h
  clear hB1
  cbv
  (try simp only [ncast] at *)
  refine toC hC (call_bits rfl hA (hb := 0) (hr := 1) (n := 5) hx hF1 (by decide) rfl rfl fun a2 b2 p2 at2 hold2 nb2 er2 z2 hF2 hB2 => ?_)
  have h2 : (8 * xs.length < p + 10 ∧ er2 = 3) ∨ (p + 10 ≤ 8 * xs.length ∧ z1 = cut (V xs) p 5 ∧ z2 = cut (V xs) (p + 5) 5 ∧ er2 = 0 ∧ p2 = p + 10) := by
    rcases h1 with ⟨g1, g2⟩ | ⟨g1, g2, g3, g4⟩
    · have := bits1 (by omega) hB2
      exact .inl ⟨by omega, by omega⟩
    · rcases bits0 g3 (by omega) hB2 with ⟨k1, _, k3, _⟩ | ⟨k1, k2, k3, k4⟩
      · have k1 : 8 * xs.length < p1 + 5 := k1
        exact .inl ⟨by omega, k3⟩
      · have k1 : p1 + 5 ≤ 8 * xs.length := k1
        have k4 : p2 = p1 + 5 := k4
        exact .inr ⟨by omega, g2, by rw [k2, g4]; rfl, k3, by omega⟩
  clear hB2 h1
  cbv
  (try simp only [ncast] at *)
  refine toC hC (call_bits rfl hA (hb := 0) (hr := 1) (n := 4) hx hF2 (by decide) rfl rfl fun a3 b3 p3 at3 hold3 nb3 er3 z3 hF3 hB3 => ?_)
  have hall : (8 * xs.length < p + 14 ∧ er3 = 3) ∨ (p + 14 ≤ 8 * xs.length ∧ z1 = cut (V xs) p 5 ∧ z2 = cut (V xs) (p + 5) 5 ∧ z3 = cut (V xs) (p + 10) 4 ∧ er3 = 0 ∧ p3 = p + 14) := by
    rcases h2 with ⟨g1, g2⟩ | ⟨g1, g2, g2', g3, g4⟩
    · have := bits1 (by omega) hB3
      exact .inl ⟨by omega, by omega⟩
    · rcases bits0 g3 (by omega) hB3 with ⟨k1, _, k3, _⟩ | ⟨k1, k2, k3, k4⟩
      · have k1 : 8 * xs.length < p2 + 4 := k1
        exact .inl ⟨by omega, k3⟩
      · have k1 : p2 + 4 ≤ 8 * xs.length := k1
        have k4 : p3 = p2 + 4 := k4
        exact .inr ⟨by omega, g2, g2', by rw [k2, g4]; rfl, k3, by omega⟩
  clear hB3 h2 hF hF1 hF2
  rcases hall with ⟨hs, rfl⟩ | ⟨hs, hz1, hz2, hz3, rfl, hp3⟩
  · have hrd : rdD xs p large = .error 3 := by
      unfold rdD
      rw [if_pos hs]
    cbv
    (try simp only [ncast] at *)
    refine toC hC (call_err rfl (hb := 0) (hr := 1) rfl (by show 1 < 2; omega) ?_)
    cbv
    (try simp only [ncast] at *)
    refine ifT (by simp only [neqA hA]; simp) fun h => ?_
    (try rw [h]); clear h
    cbv
    (try simp only [ncast] at *)
    refine toC hC (call_err rfl (hb := 0) (hr := 1) rfl (by show 1 < 2; omega) ?_)
    cbv
    (try simp only [ncast] at *)
    subst hA hq
    refine Fin_of ⟨[(4, .nilS), (5, .nilS), (6, .int .i64 3)], RdH R m at3 hold3 nb3 3 xs ++ [.gone]⟩ ?_ ⟨a3, b3, p3, 0, 0, at3, hold3, nb3, 3, 3, [], [], hF3, .inl ⟨by omega, hrd⟩, .inl ⟨by omega, rfl, rfl⟩⟩
    unfold RdH
    exact Sb [0, 1, 1]
  · obtain ⟨D, hD⟩ : ∃ D, D = rdD xs p large := ⟨_, rfl⟩
    have hrd0 := hD
    unfold rdD at hrd0
    rw [if_neg (by omega), ← hz1, ← hz2, ← hz3] at hrd0
    have hc1 := cut_b (V xs) p (n := 5)
    have hc2 := cut_b (V xs) (p + 5) (n := 5)
    have hc3 := cut_b (V xs) (p + 10) (n := 4)
    have e32 : (2 : Int) ^ 5 = 32 := rfl
    have e16 : (2 : Int) ^ 4 = 16 := rfl
    rw [← hz1] at hc1
    rw [← hz2] at hc2
    rw [← hz3] at hc3
    clear hz1 hz2 hz3
    obtain ⟨la, hla⟩ : ∃ v, v = z1 + 257 := ⟨_, rfl⟩
    obtain ⟨lb, hlb⟩ : ∃ v, v = z2 + 1 := ⟨_, rfl⟩
    obtain ⟨n3, hn3⟩ : ∃ v, v = z3 + 4 := ⟨_, rfl⟩
    rw [show 257 + z1 = la by omega, show 1 + z2 = lb by omega, show 4 + z3 = n3 by omega] at hrd0
    have w1 : A.wrap .i64 z1 = z1 := by rw [wrapA hA, wrap64 (by omega)]
    have w2 : A.wrap .i64 z2 = z2 := by rw [wrapA hA, wrap64 (by omega)]
    have w3 : A.wrap .i64 z3 = z3 := by rw [wrapA hA, wrap64 (by omega)]
    have x1 : A.bin .add .i64 z1 257 = la := by rw [addA hA, wrap64 (by omega), hla]
    have x2 : A.bin .add .i64 z2 1 = lb := by rw [addA hA, wrap64 (by omega), hlb]
    have x3 : A.bin .add .i64 z3 4 = n3 := by rw [addA hA, wrap64 (by omega), hn3]
    have x4 : A.bin .add .i64 la lb = la + lb := by rw [addA hA, wrap64 (by omega)]
    have hmo : mosD large ≤ 32 := by unfold mosD; split <;> omega
    obtain ⟨mo, hmoe⟩ : ∃ v, v = mosD large := ⟨_, rfl⟩
    rw [← hmoe] at hrd0 hmo
    obtain ⟨nN, hnN⟩ : ∃ k : Nat, k = n3.toNat := ⟨_, rfl⟩
    have hn3N : n3 = nN := by omega
    rw [← hnN] at hrd0
    cbv
    (try simp only [ncast] at *)
    simp only [w1, w2, w3, x1, x2, x3]
    refine toC hC (call_err rfl (hb := 0) (hr := 1) rfl (by show 1 < 2; omega) ?_)
    cbv
    (try simp only [ncast] at *)
    refine ifF (by simp only [neqA hA]; simp) fun h => ?_
    (try rw [h]); clear h
    cbv
    (try simp only [ncast] at *)
    have er4 : (286 < la ∨ mo < lb) → rdD xs p large = .error 4 := fun h => by rw [← hD, hrd0, if_pos h]
    refine ifB_intro (fun h => ?_) (fun h => ?_)
    · have g1 := h
      (try simp only [wA hA] at g1)
      (try rw [h]); clear h
      cbv
      (try simp only [ncast] at *)
      have hrd := er4 (.inl g1)
      subst hA hq
      refine Fin_of ⟨[(4, .nilS), (5, .nilS), (6, .int .i64 4)], RdH R m at3 hold3 nb3 0 xs ++ [.gone]⟩ ?_ ⟨a3, b3, p3, 0, 0, at3, hold3, nb3, 0, 4, [], [], hF3, .inl ⟨by omega, hrd⟩, .inl ⟨by omega, rfl, rfl⟩⟩
      unfold RdH
      exact Sb [0, 1, 1]
    · have g1 := h
      (try simp only [wA hA] at g1)
      (try rw [h]); clear h
      cbv
      (try simp only [ncast] at *)
      refine toC hC (call_mostD rfl ?_)
      rw [← hmoe]
      cbv
      (try simp only [ncast] at *)
      refine ifB_intro (fun h => ?_) (fun h => ?_)
      · have g2 := h
        (try simp only [wA hA] at g2)
        (try rw [h]); clear h
        cbv
        (try simp only [ncast] at *)
        have hrd := er4 (.inr g2)
        subst hA hq
        refine Fin_of ⟨[(4, .nilS), (5, .nilS), (6, .int .i64 4)], RdH R m at3 hold3 nb3 0 xs ++ [.gone]⟩ ?_ ⟨a3, b3, p3, 0, 0, at3, hold3, nb3, 0, 4, [], [], hF3, .inl ⟨by omega, hrd⟩, .inl ⟨by omega, rfl, rfl⟩⟩
        unfold RdH
        exact Sb [0, 1, 1]
      · have g2 := h
        (try simp only [wA hA] at g2)
        (try rw [h]); clear h
        cbv
        (try simp only [ncast] at *)
        clear er4
        rw [if_neg (by omega)] at hrd0
        have hT := s_third hO xs m p3 a3 b3 nN at3 hold3 nb3 n3 hn3N (by omega) hx hF3
        rw [← hA] at hT
        unfold RdH at hT
        refine cal_of hC hT [(0, 0, true), (1, 0, true)] ⟨by simp, by simp, trivial⟩ (matchH2 hA ⟨(show 1 < 2 by omega), trivial, trivial, trivial, trivial, trivial, trivial⟩ ⟨rfl, trivial, trivial, trivial, trivial, trivial, trivial⟩ rfl rfl rfl) ⟨⟨(show 0 < 2 by omega), trivial, rfl⟩, ⟨trivial, trivial, rfl⟩, trivial⟩ ?_
        rintro _ _ ⟨a4, b4, p4, ks, at4, hold4, nb4, er4, e4, lg, l, sy, tb, dc, hF4, hTh, hcs⟩
        clear hT hF3
        rcases hcs with ⟨he4, rfl, rfl⟩ | ⟨rfl, hQ, hDc, hks, rfl, rfl⟩
        · refine ⟨_, .tup [.nilP, .int .i64 e4], [.box 101 [.lst 1 m, .int .i64 at4, .int .u64 hold4, .int .i64 nb4, .int .i64 er4, .bool true], .lst 5 1 (A.ints .u8 xs), .gone, .gone], rfl, rfl, ?_, ?_⟩
          · simp only [backH, List.cons_append, List.nil_append, List.map_cons, List.map_nil, renCk, renA hA, ← hA, setAll, List.length_cons, List.length_nil, List.drop_succ_cons, List.drop_zero]
            rfl
          have hrd : rdD xs p large = .error e4 := by
            rw [← hD, hrd0]
            rcases hTh with ⟨h1, h2⟩ | ⟨h1, h2, h3⟩ | ⟨h1, _⟩
            · rw [if_pos (by omega), h1]
            · rw [if_neg (by omega), if_pos (by rw [← hp3]; exact h3), h1]
            · exact absurd h1 he4
          cbv
          (try simp only [ncast] at *)
          refine ifT (by simp only [neqA hA]; simp; exact he4) fun h => ?_
          (try rw [h]); clear h
          cbv
          (try simp only [ncast] at *)
          subst hA hq
          refine Fin_of ⟨[(4, .nilS), (5, .nilS), (6, .int .i64 e4)], RdH R m at4 hold4 nb4 er4 xs ++ [.gone]⟩ ?_ ⟨a4, b4, p4, 0, 0, at4, hold4, nb4, er4, e4, [], [], hF4, .inl ⟨by omega, hrd⟩, .inl ⟨by omega, rfl, rfl⟩⟩
          unfold RdH
          exact Sb [0, 1, 1]
        · obtain ⟨hr0, hp4b, hck, hl, hp4⟩ : er4 = 0 ∧ p3 + 3 * nN ≤ 8 * xs.length ∧ ChkQ (thS xs p3 nN 19) 1 ∧ l = thS xs p3 nN 19 ∧ p4 = p3 + 3 * nN := by
            rcases hTh with ⟨h1, _⟩ | ⟨h1, _⟩ | ⟨_, h⟩
            · omega
            · omega
            · exact h
          subst hr0
          clear hTh
          rw [if_neg (by omega), if_neg (by rw [← hp3]; exact not_not_intro hck), ← hp3, ← hl, ← hp4] at hrd0
          have hm := hDc.mapR (linkOf 2 [(0, 0, true), (1, 0, true)])
          have hm : IsDC (dc.map (renC (linkOf 2 [(0, 0, true), (1, 0, true)]))) true lg (cvec l) (fvec (cvec l)) (.lst 3 ks) tb := hm
          obtain ⟨dd, hdd⟩ : ∃ d, d = dc.map (renC (linkOf 2 [(0, 0, true), (1, 0, true)])) := ⟨_, rfl⟩
          rw [← hdd] at hm
          refine ⟨_, .tup [.ptr 2 0, .int .i64 0], [.box 101 [.lst 1 m, .int .i64 at4, .int .u64 hold4, .int .i64 nb4, .int .i64 0, .bool true], .lst 5 1 (A.ints .u8 xs), .box 147 dd, .lst 3 1 (A.ints .i64 sy)], rfl, rfl, ?_, ?_⟩
          · rw [hdd]
            simp only [backH, List.cons_append, List.nil_append, List.map_cons, List.map_nil, renCk, renA hA, ← hA, setAll, List.length_cons, List.length_nil, List.drop_succ_cons, List.drop_zero]
            rfl
          clear hdd hDc hck
          cbv
          (try simp only [ncast] at *)
          refine ifF (by simp only [neqA hA]; simp) fun h => ?_
          (try rw [h]); clear h
          cbv
          (try simp only [ncast] at *)
          simp only [x4]
          have hLs := s_dlists l lg sy tb ks dd xs m p4 a4 b4 at4 hold4 nb4 (la + lb) (by omega) hQ hm hks hx hF4
          rw [← hA] at hLs
          unfold RdH at hLs
          have hu : dd.map (renC (linkOf 4 [(0, 0, true), (1, 0, true), (2, 0, false), (3, 0, false)])) = dd := (hm.mapR (linkOf 4 [(0, 0, true), (1, 0, true), (2, 0, false), (3, 0, false)])).uniq hm
          refine cal_of hC (Spec.lift hLs) [(0, 0, true), (1, 0, true), (2, 0, false), (3, 0, false)] ?_ ⟨rfl, ⟨(show 1 < 4 by omega), trivial, trivial, trivial, trivial, trivial, trivial⟩, ⟨rfl, trivial, trivial, trivial, trivial, trivial, trivial⟩, rfl, rfl, hLtsA hA .., zOksA hA .., ?_, hm.hl (show 3 < 4 by omega), hm.zo rfl, ?_, hLtsA hA .., zOksA hA .., ?_, trivial⟩ ⟨⟨(show 0 < 4 by omega), trivial, rfl⟩, ⟨(show 2 < 4 by omega), trivial, rfl⟩, ⟨trivial, trivial, rfl⟩, trivial⟩ ?_
          · simp [lkOk]
          · rw [renCk, renA hA]; rfl
          · exact (cells_box rfl rfl).trans (congrArg some hu.symm)
          · rw [renA hA, A_ints_len hA, ← hks]; exact cells_lst rfl (by rw [A_ints_len hA]; exact hks.symm)
          rintro _ _ ⟨a5, b5, p5, k5, at5, hold5, nb5, er5, e5, o, hF5, hLi, hk5, rfl, rfl⟩
          clear hLs hu hF4
          refine ⟨_, .tup [.lst 4 k5, .int .i64 e5], [.box 101 [.lst 1 m, .int .i64 at5, .int .u64 hold5, .int .i64 nb5, .int .i64 er5, .bool true], .lst 5 1 (A.ints .u8 xs), .box 147 dd, .lst 3 1 (A.ints .i64 sy), .lst 3 1 (A.ints .i64 o)], rfl, rfl, ?_, ?_⟩
          · simp only [backH, List.cons_append, List.nil_append, List.map_cons, List.map_nil, renCk, renA hA, ← hA, setAll, List.length_cons, List.length_nil, List.drop_succ_cons, List.drop_zero]
            rfl
          cbv
          (try simp only [ncast] at *)
          refine ifB_intro (fun h => ?_) (fun h => ?_)
          · have g5 := h
            (try simp only [wA hA] at g5)
            (try rw [h]); clear h
            cbv
            (try simp only [ncast] at *)
            have hrd : rdD xs p large = .error e5 := by
              rw [← hD, hrd0]
              rcases hLi with ⟨_, _, h⟩ | ⟨h, _⟩
              · rw [h]
              · exact absurd h g5
            subst hA hq
            refine Fin_of ⟨[(4, .nilS), (5, .nilS), (6, .int .i64 e5)], RdH R m at5 hold5 nb5 er5 xs ++ [.gone]⟩ ?_ ⟨a5, b5, p5, 0, 0, at5, hold5, nb5, er5, e5, [], [], hF5, .inl ⟨by omega, hrd⟩, .inl ⟨by omega, rfl, rfl⟩⟩
            unfold RdH
            exact Sb [0, 1, 1]
          · have g5 := h
            (try simp only [wA hA] at g5)
            (try rw [h]); clear h
            cbv
            (try simp only [ncast] at *)
            obtain ⟨hr5, hol, hli⟩ : er5 = 0 ∧ (o.length : Int) = la + lb ∧ liM l xs (la + lb) (la + lb).toNat p4 [] = .ok (o, p5) := by
              rcases hLi with ⟨h, _⟩ | ⟨_, h⟩
              · exact absurd g5 h
              · exact h
            subst hr5
            rw [hli] at hrd0
            clear hLi hli
            obtain ⟨aN, haN⟩ : ∃ k : Nat, k = la.toNat := ⟨_, rfl⟩
            obtain ⟨bN, hbN⟩ : ∃ k : Nat, aN + k = k5 := ⟨k5 - aN, by omega⟩
            obtain ⟨lit, hlit⟩ : ∃ v, v = o.take aN := ⟨_, rfl⟩
            obtain ⟨dist, hdist⟩ : ∃ v, v = o.drop aN := ⟨_, rfl⟩
            have hll : aN = lit.length := by rw [hlit, List.length_take]; omega
            have hdl : bN = dist.length := by rw [hdist, List.length_drop]; omega
            have hlo : lit ++ dist = o := by rw [hlit, hdist, List.take_append_drop]
            have hrd0 : D = open Classical in if RgP lit dist large then Except.ok (lit, dist, p5) else Except.error 6 := by
              rw [hlit, hdist, haN]; exact hrd0
            have i0 : A.ix 0 (A.nat 0) 1 = 0 := by rw [ixA hA, natA hA]; rfl
            have i1 : A.cnt la (A.nat 0) = aN := by rw [cntA hA, natA hA, haN]; congr 1; omega
            have i2 : A.ix 0 la 1 = aN := by rw [ixA hA, haN]; omega
            have i3 : A.cnt (A.nat k5) la = bN := by rw [cntA hA, natA hA]; omega
            have c0 : A.ge0 (A.nat 0) := by rw [ge0A hA, natA hA]; omega
            have c1 : A.leI (A.nat 0) la := by rw [leIA hA, natA hA]; omega
            have c2 : A.leI la (A.nat k5) := by rw [leIA hA, natA hA]; omega
            have c3 : A.ge0 la := by rw [ge0A hA]; omega
            have c4 : A.leI (A.nat k5) (A.nat k5) := by rw [leIA hA]; omega
            have c5 : A.leI la la := by rw [leIA hA]; omega
            refine ⟨c0, c1, c2, c3, c2, c4, ?_⟩
            simp only [i0, i1, i2, i3]
            refine toC hC (call_right17 rfl hA (h1 := 4) (o1 := 0) (h2 := 4) (o2 := aN) hll hdl (by omega) (by omega) (win_cells hA rfl (by rw [List.drop_zero]; exact hlit) (by omega)) (win_cells hA rfl (by rw [hdist, hdl, hdist, List.take_length]) (by omega)) ⟨⟨(show 0 < 2 by omega), rfl, rfl, rfl⟩, ⟨(show 1 < 2 by omega), rfl, Nat.add_zero _, rfl⟩, ⟨trivial, trivial, rfl⟩, trivial⟩ fun t ht => ?_)
            have hnt : A.not true = false := by rw [notA hA]; rfl
            have hnf : A.not false = true := by rw [notA hA]; rfl
            cases t with
            | false =>
              have hrd : rdD xs p large = .error 6 := by
                rw [← hD, hrd0, if_neg (fun h => absurd (ht.2 h) (by simp))]
              cbv
              (try simp only [ncast] at *)
              simp only [hnf]
              cbv
              (try simp only [ncast] at *)
              subst hA hq
              refine Fin_of ⟨[(4, .nilS), (5, .nilS), (6, .int .i64 6)], RdH R m at5 hold5 nb5 0 xs ++ [.gone]⟩ ?_ ⟨a5, b5, p5, 0, 0, at5, hold5, nb5, 0, 6, [], [], hF5, .inl ⟨by omega, hrd⟩, .inl ⟨by omega, rfl, rfl⟩⟩
              unfold RdH
              exact Sb [0, 1, 1]
            | true =>
              have hrg := ht.1 rfl
              rw [if_pos hrg] at hrd0
              rw [hD] at hrd0
              clear ht hD
              cbv
              (try simp only [ncast] at *)
              simp only [hnt]
              cbv
              (try simp only [ncast] at *)
              refine ⟨by first | exact c0 | assumption, by first | exact c1 | assumption, by first | exact c2 | exact c5 | assumption, ?_⟩
              refine ⟨c3, c2, c4, ?_⟩
              have i4 : A.ix 0 la 1 = 0 + aN := by rw [i2]; omega
              simp only [i0, i1, i4, i3]
              subst hA hq
              refine Fin_of ⟨[(4, .sl 2 0 aN true), (5, .sl 2 aN bN false), (6, .int .i64 0)], RdH R m at5 hold5 nb5 0 xs ++ [.lst 3 1 (R.ints .i64 o)]⟩ ?_ ⟨a5, b5, p5, aN, bN, at5, hold5, nb5, 0, 0, lit, dist, hF5, .inr ⟨rfl, rfl, hrg, hrd0⟩, .inr ⟨rfl, hll, hdl, rfl, by rw [hlo]⟩⟩
              unfold RdH
              exact Sb [0, 1, 4]
end Go.Sx

/- dyn: the document's Read. -/
set_option maxRecDepth 100000
set_option maxHeartbeats 4000000
set_option linter.unusedVariables false
set_option linter.unusedSimpArgs false
namespace Go.Sx
open Go.Proofs.Tryd

theorem s_rread (xs : List Int) (m p : Nat) (pI : Int) (large : Bool) (hP : RP xs m p pI) :
    Spec prog 57 [.ptr 0 0, .bool large] [.box 71 [.sl 1 0 m false, .int .i64 pI, .int .i64 0], .vw (R.ints .u8 xs)] (fun r H => ∃ (p' ka kb : Nat) (pI' er' e : Int) (lit dist : List Int), RP xs m p' pI' ∧ RdQ xs p large lit dist e p' er' ∧
      ((e ≠ 0 ∧ r = .tup [.nilS, .nilS, .int .i64 e] ∧ H = [.box 71 [.sl 1 0 m false, .int .i64 pI', .int .i64 er'], .vw (R.ints .u8 xs), .gone]) ∨ (e = 0 ∧ ka = lit.length ∧ kb = dist.length ∧ r = .tup [.sl 2 0 ka false, .sl 2 ka kb false, .int .i64 0] ∧ H = [.box 71 [.sl 1 0 m false, .int .i64 pI', .int .i64 er'], .vw (R.ints .u8 xs), .lst 3 1 (R.ints .i64 (lit ++ dist))]))) := by
  refine Spec_of_kF (D := fun i => if i = 5 then (6, []) else if i = 13 then (8, [0,2]) else if i = 15 then (6, []) else if i = 22 then (7, []) else if i = 24 then (7, []) else (0, [])) (ks := [0, 1, 4, 5, 6, 7, 8, 9, 10, 11, 12, 13, 15, 16]) tok mixed (fn := f57) rfl rfl rfl (by kernel_rfl) (N := 108) rfl (rs := [.tmp 4, .tmp 5, .tmp 6]) rfl (Nat.le_of_ble_eq_true rfl) fun A C Kp E ag L q hA hC hK hE hag hL hq => ?_
  rw [← hA]
  have hxs : xs = xs.take m := by rw [hP.2.2.2.1, List.take_length]
  have hmx : m ≤ xs.length := by rw [hP.2.2.2.1]; omega
  cbv
  (try simp only [ncast] at *)
  refine call_rbits hC hA (hb := 0) (hv := 1) (ws := xs) (n := 5) hP (by decide) rfl rfl hxs hmx fun p1 pI1 er1 z1 hP1 hB1 => ?_
  have h1 : (8 * xs.length < p + 5 ∧ er1 = 3) ∨ (p + 5 ≤ 8 * xs.length ∧ z1 = cut (V xs) p 5 ∧ er1 = 0 ∧ p1 = p + 5) := by
    rcases bits0 rfl (by omega) hB1 with h | h
    · exact .inl ⟨h.1, h.2.2.1⟩
    · exact .inr h
  clear hB1
  cbv
  (try simp only [ncast] at *)
  refine call_rbits hC hA (hb := 0) (hv := 1) (ws := xs) (n := 5) hP1 (by decide) rfl rfl hxs hmx fun p2 pI2 er2 z2 hP2 hB2 => ?_
  have h2 : (8 * xs.length < p + 10 ∧ er2 = 3) ∨ (p + 10 ≤ 8 * xs.length ∧ z1 = cut (V xs) p 5 ∧ z2 = cut (V xs) (p + 5) 5 ∧ er2 = 0 ∧ p2 = p + 10) := by
    rcases h1 with ⟨g1, g2⟩ | ⟨g1, g2, g3, g4⟩
    · have := bits1 (by omega) hB2
      exact .inl ⟨by omega, by omega⟩
    · rcases bits0 g3 (by omega) hB2 with ⟨k1, _, k3, _⟩ | ⟨k1, k2, k3, k4⟩
      · have k1 : 8 * xs.length < p1 + 5 := k1
        exact .inl ⟨by omega, k3⟩
      · have k1 : p1 + 5 ≤ 8 * xs.length := k1
        have k4 : p2 = p1 + 5 := k4
        exact .inr ⟨by omega, g2, by rw [k2, g4]; rfl, k3, by omega⟩
  clear hB2 h1
  cbv
  (try simp only [ncast] at *)
  refine call_rbits hC hA (hb := 0) (hv := 1) (ws := xs) (n := 4) hP2 (by decide) rfl rfl hxs hmx fun p3 pI3 er3 z3 hP3 hB3 => ?_
  have hall : (8 * xs.length < p + 14 ∧ er3 = 3) ∨ (p + 14 ≤ 8 * xs.length ∧ z1 = cut (V xs) p 5 ∧ z2 = cut (V xs) (p + 5) 5 ∧ z3 = cut (V xs) (p + 10) 4 ∧ er3 = 0 ∧ p3 = p + 14) := by
    rcases h2 with ⟨g1, g2⟩ | ⟨g1, g2, g2', g3, g4⟩
    · have := bits1 (by omega) hB3
      exact .inl ⟨by omega, by omega⟩
    · rcases bits0 g3 (by omega) hB3 with ⟨k1, _, k3, _⟩ | ⟨k1, k2, k3, k4⟩
      · have k1 : 8 * xs.length < p2 + 4 := k1
        exact .inl ⟨by omega, k3⟩
      · have k1 : p2 + 4 ≤ 8 * xs.length := k1
        have k4 : p3 = p2 + 4 := k4
        exact .inr ⟨by omega, g2, g2', by rw [k2, g4]; rfl, k3, by omega⟩
  clear hB3 h2 hP hP1 hP2
  rcases hall with ⟨hs, rfl⟩ | ⟨hs, hz1, hz2, hz3, rfl, hp3⟩
  · have hrd : rdD xs p large = .error 3 := by
      unfold rdD
      rw [if_pos hs]
    cbv
    (try simp only [ncast] at *)
    refine ifT (by simp only [neqA hA]; simp) fun h => ?_
    (try rw [h]); clear h
    cbv
    (try simp only [ncast] at *)
    subst hA hq
    refine Fin_of ⟨[(4, .nilS), (5, .nilS), (6, .int .i64 3)], [.box 71 [.sl 1 0 m false, .int .i64 pI3, .int .i64 3], .vw (R.ints .u8 xs), .gone]⟩ ?_ ⟨p3, 0, 0, pI3, 3, 3, [], [], hP3, .inl ⟨by omega, hrd⟩, .inl ⟨by omega, rfl, rfl⟩⟩
    exact Sb [0, 1, 1]
  · obtain ⟨D, hD⟩ : ∃ D, D = rdD xs p large := ⟨_, rfl⟩
    have hrd0 := hD
    unfold rdD at hrd0
    rw [if_neg (by omega), ← hz1, ← hz2, ← hz3] at hrd0
    have hc1 := cut_b (V xs) p (n := 5)
    have hc2 := cut_b (V xs) (p + 5) (n := 5)
    have hc3 := cut_b (V xs) (p + 10) (n := 4)
    have e32 : (2 : Int) ^ 5 = 32 := rfl
    have e16 : (2 : Int) ^ 4 = 16 := rfl
    rw [← hz1] at hc1
    rw [← hz2] at hc2
    rw [← hz3] at hc3
    clear hz1 hz2 hz3
    obtain ⟨la, hla⟩ : ∃ v, v = z1 + 257 := ⟨_, rfl⟩
    obtain ⟨lb, hlb⟩ : ∃ v, v = z2 + 1 := ⟨_, rfl⟩
    obtain ⟨n3, hn3⟩ : ∃ v, v = z3 + 4 := ⟨_, rfl⟩
    rw [show 257 + z1 = la by omega, show 1 + z2 = lb by omega, show 4 + z3 = n3 by omega] at hrd0
    have w1 : A.wrap .i64 z1 = z1 := by rw [wrapA hA, wrap64 (by omega)]
    have w2 : A.wrap .i64 z2 = z2 := by rw [wrapA hA, wrap64 (by omega)]
    have w3 : A.wrap .i64 z3 = z3 := by rw [wrapA hA, wrap64 (by omega)]
    have x1 : A.bin .add .i64 z1 257 = la := by rw [addA hA, wrap64 (by omega), hla]
    have x2 : A.bin .add .i64 z2 1 = lb := by rw [addA hA, wrap64 (by omega), hlb]
    have x3 : A.bin .add .i64 z3 4 = n3 := by rw [addA hA, wrap64 (by omega), hn3]
    have x4 : A.bin .add .i64 la lb = la + lb := by rw [addA hA, wrap64 (by omega)]
    obtain ⟨mo, hmoe⟩ : ∃ v, v = mosD large := ⟨_, rfl⟩
    have hmo : mo = if large then 32 else 30 := hmoe
    rw [← hmoe] at hrd0
    obtain ⟨nN, hnN⟩ : ∃ k : Nat, k = n3.toNat := ⟨_, rfl⟩
    have hn3N : n3 = nN := by omega
    rw [← hnN] at hrd0
    cbv
    (try simp only [ncast] at *)
    simp only [w1, w2, w3, x1, x2, x3]
    refine ifF (by simp only [neqA hA]; simp) fun h => ?_
    (try rw [h]); clear h
    cbv
    (try simp only [ncast] at *)
    have er4 : (286 < la ∨ mo < lb) → rdD xs p large = .error 4 := fun h => by rw [← hD, hrd0, if_pos h]
    refine ifB_intro (fun h => ?_) (fun h => ?_)
    · have g1 := h
      (try simp only [wA hA] at g1)
      (try rw [h]); clear h
      cbv
      (try simp only [ncast] at *)
      have hrd := er4 (.inl g1)
      subst hA hq
      refine Fin_of ⟨[(4, .nilS), (5, .nilS), (6, .int .i64 4)], [.box 71 [.sl 1 0 m false, .int .i64 pI3, .int .i64 0], .vw (R.ints .u8 xs), .gone]⟩ ?_ ⟨p3, 0, 0, pI3, 0, 4, [], [], hP3, .inl ⟨by omega, hrd⟩, .inl ⟨by omega, rfl, rfl⟩⟩
      exact Sb [0, 1, 1]
    · have g1 := h
      (try simp only [wA hA] at g1)
      (try rw [h]); clear h
      cbv
      (try simp only [ncast] at *)
      have hmo30 : large = false → mo = 30 := fun h => by rw [hmo, h]; rfl
      have hmo32 : large = true → mo = 32 := fun h => by rw [hmo, h]; rfl
      refine ifB_intro (fun h => ?_) (fun h => ?_)
      · have g2 := h
        (try simp only [wA hA] at g2)
        (try rw [h]); clear h
        cbv
        (try simp only [ncast] at *)
        by_cases hlg : large = true
        · have hnt : A.not large = false := by rw [notA hA, hlg]; rfl
          have := hmo32 hlg
          cbv
          (try simp only [ncast] at *)
          simp only [hnt]
          cbv
          (try simp only [ncast] at *)
          clear er4
          rw [if_neg (by omega), ← hp3] at hrd0
          obtain ⟨z19, hz19⟩ : ∃ z, z = List.replicate 19 (0 : Int) := ⟨_, rfl⟩
          obtain ⟨od, hod⟩ : ∃ z, z = ordD := ⟨_, rfl⟩
          have hodl : od.length = 19 := by rw [hod]; rfl
          have hodb : ∀ i, i < 19 → 0 ≤ od.getD i 0 ∧ od.getD i 0 ≤ 18 := by rw [hod]; decide
          have hr2 : A.row 19 [.int .i64 0] = A.ints .i64 z19 := by rw [hz19]; subst hA; exact row_num1
          have ht : A.tn 19 = 19 := by rw [tnA hA]; rfl
          have hm1 : A.mks 8 19 19 := by rw [mksA hA]; omega
          cbv
          (try simp only [ncast] at *)
          simp only [hr2, ht, hm1, true_and]
          cbv
          (try simp only [ncast] at *)
          refine call_rorder hC hA ?_
          rw [← hod]
          cbv
          (try simp only [ncast] at *)
          clear hr2 ht hm1
          obtain ⟨T, hT⟩ : ∃ T : Nat → List Int, T = thS xs p3 nN := ⟨_, rfl⟩
          have hT0 : T 0 = z19 := by rw [hT, hz19]; rfl
          have hTs : ∀ i, i < nN → T (i + 1) = (T i).set (od.getD i 0).toNat (cut (V xs) (p3 + 3 * i) 3) := fun i hi => by rw [hT, thS, if_pos hi, hod]
          have hTl : ∀ i, (T i).length = 19 := fun i => by rw [hT]; exact thS_len xs p3 nN i
          have hTe : T nN = thS xs p3 nN 19 := by rw [hT]; exact (thS_stop xs p3 nN 19 (by omega)).symm
          rw [hL]
          refine ⟨fun kk s => ∃ (i p1 : Nat) (iI pI er : Int) (t : List Int), iI = i ∧ i ≤ nN ∧ RP xs m p1 pI ∧ t.length = 19 ∧ ((er = 0 ∧ p1 = p3 + 3 * i ∧ t = T i) ∨ (er = 3 ∧ 8 * xs.length < p3 + 3 * nN)) ∧ kk = nN - i ∧
              s = ⟨[(0, .ptr 0 0), (1, .bool large), (7, .int .i64 la), (8, .int .i64 lb), (9, .int .i64 n3), (10, .lst 2 19), (11, .lst 3 19), (12, .int .i64 iI)], [.box 71 [.sl 1 0 m false, .int .i64 pI, .int .i64 er], .vw (A.ints .u8 xs), .lst 3 1 (A.ints .i64 t), .lst 3 1 (A.ints .i64 od)]⟩,
            ⟨_, ⟨[(0, .ptr 0 0), (1, .bool large), (7, .int .i64 la), (8, .int .i64 lb), (9, .int .i64 n3), (10, .lst 2 19), (11, .lst 3 19), (12, .int .i64 0)], [.box 71 [.sl 1 0 m false, .int .i64 pI3, .int .i64 0], .vw (A.ints .u8 xs), .lst 3 1 (A.ints .i64 z19), .lst 3 1 (A.ints .i64 od)]⟩, ?_,
              0, p3, 0, pI3, 0, z19, rfl, by omega, hP3, by rw [hz19]; rfl, .inl ⟨rfl, by omega, hT0.symm⟩, rfl, rfl⟩, ?_⟩
          · subst hA
            exact Sb [0, 1, 2, 3]
          clear hP3 hT0
          rintro kk _ ⟨i, p4, iI, pI4, er4, t, hiI, hi, hP, htl, hcase, hkk, rfl⟩
          cbv
          (try simp only [ncast] at *)
          refine ifB_intro (fun h => ?_) (fun h => ?_)
          · have hlt := h
            (try simp only [wA hA] at hlt)
            (try rw [h]); clear h
            cbv
            (try simp only [ncast] at *)
            have hvb := hodb i (by omega)
            have e5 : A.bin .add .i64 iI 1 = iI + 1 := by rw [addA hA, wrap64 (by omega)]
            refine rdA hA (by omega) (by omega) fun v hv => ?_
            have hv : v = od.getD i 0 := by rw [hv]; congr 1; omega
            rw [← hv] at hvb
            refine call_rbits hC hA (hb := 0) (hv := 1) (ws := xs) (n := 3) hP (by decide) rfl rfl hxs hmx fun p5 pI5 er5 z hP5 hB0 => ?_
            have hcase2 : (er5 = 0 ∧ p5 = p3 + 3 * (i + 1) ∧ t.set v.toNat z = T (i + 1)) ∨ (er5 = 3 ∧ 8 * xs.length < p3 + 3 * nN) := by
              rcases hcase with ⟨he, hp1, htT⟩ | ⟨he, hl⟩
              · rcases bits0 he (by omega) hB0 with ⟨h2, h3, h4, h5⟩ | ⟨h2, h3, h4, h5⟩
                · have h2 : 8 * xs.length < p4 + 3 := h2
                  exact .inr ⟨h4, by omega⟩
                · have h2 : p4 + 3 ≤ 8 * xs.length := h2
                  have h3 : z = cut (V xs) p4 3 := h3
                  have h5 : p5 = p4 + 3 := h5
                  refine .inl ⟨h4, by omega, ?_⟩
                  rw [hTs i (by omega), ← hv, htT, h3, hp1]
              · have hB1 := bits1 (by omega) hB0
                exact .inr ⟨by omega, hl⟩
            have hzb : 0 ≤ z ∧ z < 8 := by
              rcases hB0 with h | h | h | h
              · omega
              · omega
              · omega
              · have := cut_b (V xs) p4 (n := 3)
                have e8 : (2 : Int) ^ 3 = 8 := rfl
                have h2 : z = cut (V xs) p4 3 := h.2.2.2.2.1
                omega
            clear hB0 hcase
            have e7 : A.wrap .i64 z = z := by rw [wrapA hA, wrap64 (by omega)]
            cbv
            (try simp only [ncast] at *)
            simp only [e7]
            refine wrA hA (by omega) (by omega) fun ys hys => ?_
            have hys : ys = t.set v.toNat z := by rw [hys]; congr 1; omega
            cbv
            (try simp only [ncast] at *)
            simp only [e5]
            rw [← hys] at hcase2
            subst hag
            refine ⟨nN - (i + 1), ⟨[(0, .ptr 0 0), (1, .bool large), (7, .int .i64 la), (8, .int .i64 lb), (9, .int .i64 n3), (10, .lst 2 19), (11, .lst 3 19), (12, .int .i64 (iI + 1))], [.box 71 [.sl 1 0 m false, .int .i64 pI5, .int .i64 er5], .vw (A.ints .u8 xs), .lst 3 1 (A.ints .i64 ys), .lst 3 1 (A.ints .i64 od)]⟩, by omega, ?_,
              i + 1, p5, iI + 1, pI5, er5, ys, by omega, by omega, hP5, by rw [hys, List.length_set]; exact htl, hcase2, rfl, rfl⟩
            subst hA
            exact Sb [0, 1, 2, 3]
          · have hge := h
            (try simp only [wA hA] at hge)
            (try rw [h]); clear h
            cbv
            (try simp only [ncast] at *)
            have hin : i = nN := by omega
            rw [hin] at hcase
            clear hTs hi hkk hiI
            rcases hcase with ⟨rfl, hp1, htT⟩ | ⟨rfl, hl⟩
            · have hp4l : p4 ≤ 8 * xs.length := hP.2.1
              rw [if_neg (by omega)] at hrd0
              rw [← hTe, ← htT] at hrd0
              refine ifF (by simp only [neqA hA]; simp) fun h => ?_
              (try rw [h]); clear h
              cbv
              (try simp only [ncast] at *)
              refine call_rcheck hC hA (hb := 2) (ln := 19) (l := t) htl.symm (by omega) (cells_lst rfl (by rw [A_ints_len hA]; exact htl)) ⟨⟨(show 0 < 1 by omega), rfl, rfl, rfl, rfl⟩, trivial⟩ fun y hy => ?_
              cbv
              (try simp only [ncast] at *)
              refine ifB_intro (fun h => ?_) (fun h => ?_)
              · have hy1 := h
                (try simp only [wA hA] at hy1)
                (try rw [h]); clear h
                cbv
                (try simp only [ncast] at *)
                have hrd : rdD xs p large = .error 6 := by
                  rw [← hD, hrd0, if_pos (fun h => hy1 (ChkQ_uniq1 hy h))]
                subst hA hq
                refine Fin_of ⟨[(4, .nilS), (5, .nilS), (6, .int .i64 6)], [.box 71 [.sl 1 0 m false, .int .i64 pI4, .int .i64 0], .vw (R.ints .u8 xs), .gone]⟩ ?_ ⟨p4, 0, 0, pI4, 0, 6, [], [], hP, .inl ⟨by omega, hrd⟩, .inl ⟨by omega, rfl, rfl⟩⟩
                exact Sb [0, 1, 1]
              · have hy1 := h
                (try simp only [wA hA] at hy1)
                (try rw [h]); clear h
                cbv
                (try simp only [ncast] at *)
                have hy2 : ChkQ t 1 := by rw [← hy1]; exact hy
                rw [if_neg (not_not_intro hy2), ← hp1] at hrd0
                have hW0 : WrQ t 0 := by have := WrQ_of hy; rw [hy1] at this; exact this
                have hLn : Lens t := WrQ_lens hW0
                refine call_rwords hC hA (hb := 2) (ln := 19) (l := t) htl.symm (by omega) (cells_lst rfl (by rw [A_ints_len hA]; exact htl)) ⟨⟨(show 0 < 1 by omega), rfl, rfl, rfl, rfl⟩, trivial⟩ fun e rs k cs hW hrs hrs0 hkr rwC => ?_
                have he0 : e = 0 := WrQ_uniq hW hW0
                rw [hrs he0] at rwC hkr
                have hk19 : k = t.length := by rw [hkr, codesL_len]
                clear hW hrs hrs0 hkr hW0 hy
                cbv
                (try simp only [ncast] at *)
                simp only [x4]
                have hS := s_rlists t k cs xs m p4 pI4 (la + lb) (by omega) hLn hk19 rwC hP
                rw [← hA] at hS
                refine cal_of hC hS [(0, 0, true), (1, 0, false), (4, 0, false)] (by simp [lkOk]) ⟨rfl, ⟨(show 1 < 3 by omega), trivial, trivial, trivial⟩, ⟨trivial, trivial, trivial, trivial⟩, rfl, hLtsA hA .., zOksA hA .., vwA hA rfl (by rw [List.drop_zero]; exact hxs) hP.2.2.2.1 (by omega), rwC.hLts _, rwC.zOks _, ?_, trivial⟩ ⟨⟨(show 0 < 3 by omega), trivial, rfl⟩, ⟨(show 2 < 3 by omega), rfl, rfl, rfl, rfl⟩, ⟨trivial, trivial, rfl⟩, trivial⟩ ?_
                · rw [rwC.ren]; exact cells_lst rfl rfl
                rintro _ _ ⟨p5, k5, pI5, er5, e5, o, hP5, hLi, hk5, rfl, rfl⟩
                refine ⟨_, .tup [.lst 5 k5, .int .i64 e5], [.box 71 [.sl 1 0 m false, .int .i64 pI5, .int .i64 er5], .vw (A.ints .u8 xs), .lst 3 1 (A.ints .i64 t), .lst 3 1 (A.ints .i64 od), .lst 113 2 cs, .lst 3 1 (A.ints .i64 o)], rfl, rfl, ?_, ?_⟩
                · simp only [backH, List.cons_append, List.nil_append, List.map_cons, List.map_nil, renCk, renA hA, rwC.ren, ← hA, setAll, List.length_cons, List.length_nil, List.drop_succ_cons, List.drop_zero]
                  rfl
                clear hS hP
                cbv
                (try simp only [ncast] at *)
                refine ifB_intro (fun h => ?_) (fun h => ?_)
                · have g5 := h
                  (try simp only [wA hA] at g5)
                  (try rw [h]); clear h
                  cbv
                  (try simp only [ncast] at *)
                  have hrd : rdD xs p large = .error e5 := by
                    rw [← hD, hrd0]
                    rcases hLi with ⟨_, _, h⟩ | ⟨h, _⟩
                    · rw [h]
                    · exact absurd h g5
                  subst hA hq
                  refine Fin_of ⟨[(4, .nilS), (5, .nilS), (6, .int .i64 e5)], [.box 71 [.sl 1 0 m false, .int .i64 pI5, .int .i64 er5], .vw (R.ints .u8 xs), .gone]⟩ ?_ ⟨p5, 0, 0, pI5, er5, e5, [], [], hP5, .inl ⟨by omega, hrd⟩, .inl ⟨by omega, rfl, rfl⟩⟩
                  exact Sb [0, 1, 1]
                · have g5 := h
                  (try simp only [wA hA] at g5)
                  (try rw [h]); clear h
                  cbv
                  (try simp only [ncast] at *)
                  obtain ⟨hr5, hol, hli⟩ : er5 = 0 ∧ (o.length : Int) = la + lb ∧ liM t xs (la + lb) (la + lb).toNat p4 [] = .ok (o, p5) := by
                    rcases hLi with ⟨h, _⟩ | ⟨_, h⟩
                    · exact absurd g5 h
                    · exact h
                  subst hr5
                  rw [hli] at hrd0
                  clear hLi hli
                  obtain ⟨aN, haN⟩ : ∃ k : Nat, k = la.toNat := ⟨_, rfl⟩
                  obtain ⟨bN, hbN⟩ : ∃ k : Nat, aN + k = k5 := ⟨k5 - aN, by omega⟩
                  obtain ⟨lit, hlit⟩ : ∃ v, v = o.take aN := ⟨_, rfl⟩
                  obtain ⟨dist, hdist⟩ : ∃ v, v = o.drop aN := ⟨_, rfl⟩
                  have hll : aN = lit.length := by rw [hlit, List.length_take]; omega
                  have hdl : bN = dist.length := by rw [hdist, List.length_drop]; omega
                  have hlo : lit ++ dist = o := by rw [hlit, hdist, List.take_append_drop]
                  have hrd0 : D = open Classical in if RgP lit dist large then Except.ok (lit, dist, p5) else Except.error 6 := by
                    rw [hlit, hdist, haN]; exact hrd0
                  have i0 : A.ix 0 (A.nat 0) 1 = 0 := by rw [ixA hA, natA hA]; rfl
                  have i1 : A.cnt la (A.nat 0) = aN := by rw [cntA hA, natA hA, haN]; congr 1; omega
                  have i2 : A.ix 0 la 1 = aN := by rw [ixA hA, haN]; omega
                  have i3 : A.cnt (A.nat k5) la = bN := by rw [cntA hA, natA hA]; omega
                  have c0 : A.ge0 (A.nat 0) := by rw [ge0A hA, natA hA]; omega
                  have c1 : A.leI (A.nat 0) la := by rw [leIA hA, natA hA]; omega
                  have c2 : A.leI la (A.nat k5) := by rw [leIA hA, natA hA]; omega
                  have c3 : A.ge0 la := by rw [ge0A hA]; omega
                  have c4 : A.leI (A.nat k5) (A.nat k5) := by rw [leIA hA]; omega
                  have c5 : A.leI la la := by rw [leIA hA]; omega
                  refine ⟨c0, c1, c2, c3, c2, c4, ?_⟩
                  simp only [i0, i1, i2, i3]
                  refine call_rright17 hC hA (h1 := 5) (o1 := 0) (h2 := 5) (o2 := aN) hll hdl (by omega) (by omega) (win_cells hA rfl (by rw [List.drop_zero]; exact hlit) (by omega)) (win_cells hA rfl (by rw [hdist, hdl, hdist, List.take_length]) (by omega)) ⟨⟨(show 0 < 2 by omega), rfl, rfl, rfl⟩, ⟨(show 1 < 2 by omega), rfl, Nat.add_zero _, rfl⟩, ⟨trivial, trivial, rfl⟩, trivial⟩ fun t ht => ?_
                  have hnt : A.not true = false := by rw [notA hA]; rfl
                  have hnf : A.not false = true := by rw [notA hA]; rfl
                  cases t with
                  | false =>
                    have hrd : rdD xs p large = .error 6 := by
                      rw [← hD, hrd0, if_neg (fun h => absurd (ht.2 h) (by simp))]
                    cbv
                    (try simp only [ncast] at *)
                    simp only [hnf]
                    cbv
                    (try simp only [ncast] at *)
                    subst hA hq
                    refine Fin_of ⟨[(4, .nilS), (5, .nilS), (6, .int .i64 6)], [.box 71 [.sl 1 0 m false, .int .i64 pI5, .int .i64 0], .vw (R.ints .u8 xs), .gone]⟩ ?_ ⟨p5, 0, 0, pI5, 0, 6, [], [], hP5, .inl ⟨by omega, hrd⟩, .inl ⟨by omega, rfl, rfl⟩⟩
                    exact Sb [0, 1, 1]
                  | true =>
                    have hrg := ht.1 rfl
                    rw [if_pos hrg] at hrd0
                    rw [hD] at hrd0
                    clear ht hD
                    cbv
                    (try simp only [ncast] at *)
                    simp only [hnt]
                    cbv
                    (try simp only [ncast] at *)
                    refine ⟨by first | exact c0 | assumption, by first | exact c1 | assumption, by first | exact c2 | exact c5 | assumption, ?_⟩
                    refine ⟨c3, c2, c4, ?_⟩
                    have i4 : A.ix 0 la 1 = 0 + aN := by rw [i2]; omega
                    simp only [i0, i1, i4, i3]
                    subst hA hq
                    refine Fin_of ⟨[(4, .sl 2 0 aN false), (5, .sl 2 aN bN false), (6, .int .i64 0)], [.box 71 [.sl 1 0 m false, .int .i64 pI5, .int .i64 0], .vw (R.ints .u8 xs), .lst 3 1 (R.ints .i64 o)]⟩ ?_ ⟨p5, aN, bN, pI5, 0, 0, lit, dist, hP5, .inr ⟨rfl, rfl, hrg, hrd0⟩, .inr ⟨rfl, hll, hdl, rfl, by rw [hlo]⟩⟩
                    exact Sb [0, 1, 5]
            · have hrd : rdD xs p large = .error 3 := by
                rw [← hD, hrd0, if_pos hl]
              refine ifT (by simp only [neqA hA]; simp) fun h => ?_
              (try rw [h]); clear h
              cbv
              (try simp only [ncast] at *)
              subst hA hq
              refine Fin_of ⟨[(4, .nilS), (5, .nilS), (6, .int .i64 3)], [.box 71 [.sl 1 0 m false, .int .i64 pI4, .int .i64 3], .vw (R.ints .u8 xs), .gone]⟩ ?_ ⟨p4, 0, 0, pI4, 3, 3, [], [], hP, .inl ⟨by omega, hrd⟩, .inl ⟨by omega, rfl, rfl⟩⟩
              exact Sb [0, 1, 1]
        · have hlg : large = false := eq_false_of_ne_true hlg
          have hnt : A.not large = true := by rw [notA hA, hlg]; rfl
          have := hmo30 hlg
          have hrd := er4 (.inr (by omega))
          cbv
          (try simp only [ncast] at *)
          simp only [hnt]
          cbv
          (try simp only [ncast] at *)
          subst hA hq
          refine Fin_of ⟨[(4, .nilS), (5, .nilS), (6, .int .i64 4)], [.box 71 [.sl 1 0 m false, .int .i64 pI3, .int .i64 0], .vw (R.ints .u8 xs), .gone]⟩ ?_ ⟨p3, 0, 0, pI3, 0, 4, [], [], hP3, .inl ⟨by omega, hrd⟩, .inl ⟨by omega, rfl, rfl⟩⟩
          exact Sb [0, 1, 1]
      · have g2 := h
        (try simp only [wA hA] at g2)
        (try rw [h]); clear h
        cbv
        (try simp only [ncast] at *)
        have : 30 ≤ mo := by
          rw [hmo]
          split <;> omega
        cbv
        (try simp only [ncast] at *)
        clear er4
        rw [if_neg (by omega), ← hp3] at hrd0
        obtain ⟨z19, hz19⟩ : ∃ z, z = List.replicate 19 (0 : Int) := ⟨_, rfl⟩
        obtain ⟨od, hod⟩ : ∃ z, z = ordD := ⟨_, rfl⟩
        have hodl : od.length = 19 := by rw [hod]; rfl
        have hodb : ∀ i, i < 19 → 0 ≤ od.getD i 0 ∧ od.getD i 0 ≤ 18 := by rw [hod]; decide
        have hr2 : A.row 19 [.int .i64 0] = A.ints .i64 z19 := by rw [hz19]; subst hA; exact row_num1
        have ht : A.tn 19 = 19 := by rw [tnA hA]; rfl
        have hm1 : A.mks 8 19 19 := by rw [mksA hA]; omega
        cbv
        (try simp only [ncast] at *)
        simp only [hr2, ht, hm1, true_and]
        cbv
        (try simp only [ncast] at *)
        refine call_rorder hC hA ?_
        rw [← hod]
        cbv
        (try simp only [ncast] at *)
        clear hr2 ht hm1
        obtain ⟨T, hT⟩ : ∃ T : Nat → List Int, T = thS xs p3 nN := ⟨_, rfl⟩
        have hT0 : T 0 = z19 := by rw [hT, hz19]; rfl
        have hTs : ∀ i, i < nN → T (i + 1) = (T i).set (od.getD i 0).toNat (cut (V xs) (p3 + 3 * i) 3) := fun i hi => by rw [hT, thS, if_pos hi, hod]
        have hTl : ∀ i, (T i).length = 19 := fun i => by rw [hT]; exact thS_len xs p3 nN i
        have hTe : T nN = thS xs p3 nN 19 := by rw [hT]; exact (thS_stop xs p3 nN 19 (by omega)).symm
        rw [hL]
        refine ⟨fun kk s => ∃ (i p1 : Nat) (iI pI er : Int) (t : List Int), iI = i ∧ i ≤ nN ∧ RP xs m p1 pI ∧ t.length = 19 ∧ ((er = 0 ∧ p1 = p3 + 3 * i ∧ t = T i) ∨ (er = 3 ∧ 8 * xs.length < p3 + 3 * nN)) ∧ kk = nN - i ∧
            s = ⟨[(0, .ptr 0 0), (1, .bool large), (7, .int .i64 la), (8, .int .i64 lb), (9, .int .i64 n3), (10, .lst 2 19), (11, .lst 3 19), (12, .int .i64 iI)], [.box 71 [.sl 1 0 m false, .int .i64 pI, .int .i64 er], .vw (A.ints .u8 xs), .lst 3 1 (A.ints .i64 t), .lst 3 1 (A.ints .i64 od)]⟩,
          ⟨_, ⟨[(0, .ptr 0 0), (1, .bool large), (7, .int .i64 la), (8, .int .i64 lb), (9, .int .i64 n3), (10, .lst 2 19), (11, .lst 3 19), (12, .int .i64 0)], [.box 71 [.sl 1 0 m false, .int .i64 pI3, .int .i64 0], .vw (A.ints .u8 xs), .lst 3 1 (A.ints .i64 z19), .lst 3 1 (A.ints .i64 od)]⟩, ?_,
            0, p3, 0, pI3, 0, z19, rfl, by omega, hP3, by rw [hz19]; rfl, .inl ⟨rfl, by omega, hT0.symm⟩, rfl, rfl⟩, ?_⟩
        · subst hA
          exact Sb [0, 1, 2, 3]
        clear hP3 hT0
        rintro kk _ ⟨i, p4, iI, pI4, er4, t, hiI, hi, hP, htl, hcase, hkk, rfl⟩
        cbv
        (try simp only [ncast] at *)
        refine ifB_intro (fun h => ?_) (fun h => ?_)
        · have hlt := h
          (try simp only [wA hA] at hlt)
          (try rw [h]); clear h
          cbv
          (try simp only [ncast] at *)
          have hvb := hodb i (by omega)
          have e5 : A.bin .add .i64 iI 1 = iI + 1 := by rw [addA hA, wrap64 (by omega)]
          refine rdA hA (by omega) (by omega) fun v hv => ?_
          have hv : v = od.getD i 0 := by rw [hv]; congr 1; omega
          rw [← hv] at hvb
          refine call_rbits hC hA (hb := 0) (hv := 1) (ws := xs) (n := 3) hP (by decide) rfl rfl hxs hmx fun p5 pI5 er5 z hP5 hB0 => ?_
          have hcase2 : (er5 = 0 ∧ p5 = p3 + 3 * (i + 1) ∧ t.set v.toNat z = T (i + 1)) ∨ (er5 = 3 ∧ 8 * xs.length < p3 + 3 * nN) := by
            rcases hcase with ⟨he, hp1, htT⟩ | ⟨he, hl⟩
            · rcases bits0 he (by omega) hB0 with ⟨h2, h3, h4, h5⟩ | ⟨h2, h3, h4, h5⟩
              · have h2 : 8 * xs.length < p4 + 3 := h2
                exact .inr ⟨h4, by omega⟩
              · have h2 : p4 + 3 ≤ 8 * xs.length := h2
                have h3 : z = cut (V xs) p4 3 := h3
                have h5 : p5 = p4 + 3 := h5
                refine .inl ⟨h4, by omega, ?_⟩
                rw [hTs i (by omega), ← hv, htT, h3, hp1]
            · have hB1 := bits1 (by omega) hB0
              exact .inr ⟨by omega, hl⟩
          have hzb : 0 ≤ z ∧ z < 8 := by
            rcases hB0 with h | h | h | h
            · omega
            · omega
            · omega
            · have := cut_b (V xs) p4 (n := 3)
              have e8 : (2 : Int) ^ 3 = 8 := rfl
              have h2 : z = cut (V xs) p4 3 := h.2.2.2.2.1
              omega
          clear hB0 hcase
          have e7 : A.wrap .i64 z = z := by rw [wrapA hA, wrap64 (by omega)]
          cbv
          (try simp only [ncast] at *)
          simp only [e7]
          refine wrA hA (by omega) (by omega) fun ys hys => ?_
          have hys : ys = t.set v.toNat z := by rw [hys]; congr 1; omega
          cbv
          (try simp only [ncast] at *)
          simp only [e5]
          rw [← hys] at hcase2
          subst hag
          refine ⟨nN - (i + 1), ⟨[(0, .ptr 0 0), (1, .bool large), (7, .int .i64 la), (8, .int .i64 lb), (9, .int .i64 n3), (10, .lst 2 19), (11, .lst 3 19), (12, .int .i64 (iI + 1))], [.box 71 [.sl 1 0 m false, .int .i64 pI5, .int .i64 er5], .vw (A.ints .u8 xs), .lst 3 1 (A.ints .i64 ys), .lst 3 1 (A.ints .i64 od)]⟩, by omega, ?_,
            i + 1, p5, iI + 1, pI5, er5, ys, by omega, by omega, hP5, by rw [hys, List.length_set]; exact htl, hcase2, rfl, rfl⟩
          subst hA
          exact Sb [0, 1, 2, 3]
        · have hge := h
          (try simp only [wA hA] at hge)
          (try rw [h]); clear h
          cbv
          (try simp only [ncast] at *)
          have hin : i = nN := by omega
          rw [hin] at hcase
          clear hTs hi hkk hiI
          rcases hcase with ⟨rfl, hp1, htT⟩ | ⟨rfl, hl⟩
          · have hp4l : p4 ≤ 8 * xs.length := hP.2.1
            rw [if_neg (by omega)] at hrd0
            rw [← hTe, ← htT] at hrd0
            refine ifF (by simp only [neqA hA]; simp) fun h => ?_
            (try rw [h]); clear h
            cbv
            (try simp only [ncast] at *)
            refine call_rcheck hC hA (hb := 2) (ln := 19) (l := t) htl.symm (by omega) (cells_lst rfl (by rw [A_ints_len hA]; exact htl)) ⟨⟨(show 0 < 1 by omega), rfl, rfl, rfl, rfl⟩, trivial⟩ fun y hy => ?_
            cbv
            (try simp only [ncast] at *)
            refine ifB_intro (fun h => ?_) (fun h => ?_)
            · have hy1 := h
              (try simp only [wA hA] at hy1)
              (try rw [h]); clear h
              cbv
              (try simp only [ncast] at *)
              have hrd : rdD xs p large = .error 6 := by
                rw [← hD, hrd0, if_pos (fun h => hy1 (ChkQ_uniq1 hy h))]
              subst hA hq
              refine Fin_of ⟨[(4, .nilS), (5, .nilS), (6, .int .i64 6)], [.box 71 [.sl 1 0 m false, .int .i64 pI4, .int .i64 0], .vw (R.ints .u8 xs), .gone]⟩ ?_ ⟨p4, 0, 0, pI4, 0, 6, [], [], hP, .inl ⟨by omega, hrd⟩, .inl ⟨by omega, rfl, rfl⟩⟩
              exact Sb [0, 1, 1]
            · have hy1 := h
              (try simp only [wA hA] at hy1)
              (try rw [h]); clear h
              cbv
              (try simp only [ncast] at *)
              have hy2 : ChkQ t 1 := by rw [← hy1]; exact hy
              rw [if_neg (not_not_intro hy2), ← hp1] at hrd0
              have hW0 : WrQ t 0 := by have := WrQ_of hy; rw [hy1] at this; exact this
              have hLn : Lens t := WrQ_lens hW0
              refine call_rwords hC hA (hb := 2) (ln := 19) (l := t) htl.symm (by omega) (cells_lst rfl (by rw [A_ints_len hA]; exact htl)) ⟨⟨(show 0 < 1 by omega), rfl, rfl, rfl, rfl⟩, trivial⟩ fun e rs k cs hW hrs hrs0 hkr rwC => ?_
              have he0 : e = 0 := WrQ_uniq hW hW0
              rw [hrs he0] at rwC hkr
              have hk19 : k = t.length := by rw [hkr, codesL_len]
              clear hW hrs hrs0 hkr hW0 hy
              cbv
              (try simp only [ncast] at *)
              simp only [x4]
              have hS := s_rlists t k cs xs m p4 pI4 (la + lb) (by omega) hLn hk19 rwC hP
              rw [← hA] at hS
              refine cal_of hC hS [(0, 0, true), (1, 0, false), (4, 0, false)] (by simp [lkOk]) ⟨rfl, ⟨(show 1 < 3 by omega), trivial, trivial, trivial⟩, ⟨trivial, trivial, trivial, trivial⟩, rfl, hLtsA hA .., zOksA hA .., vwA hA rfl (by rw [List.drop_zero]; exact hxs) hP.2.2.2.1 (by omega), rwC.hLts _, rwC.zOks _, ?_, trivial⟩ ⟨⟨(show 0 < 3 by omega), trivial, rfl⟩, ⟨(show 2 < 3 by omega), rfl, rfl, rfl, rfl⟩, ⟨trivial, trivial, rfl⟩, trivial⟩ ?_
              · rw [rwC.ren]; exact cells_lst rfl rfl
              rintro _ _ ⟨p5, k5, pI5, er5, e5, o, hP5, hLi, hk5, rfl, rfl⟩
              refine ⟨_, .tup [.lst 5 k5, .int .i64 e5], [.box 71 [.sl 1 0 m false, .int .i64 pI5, .int .i64 er5], .vw (A.ints .u8 xs), .lst 3 1 (A.ints .i64 t), .lst 3 1 (A.ints .i64 od), .lst 113 2 cs, .lst 3 1 (A.ints .i64 o)], rfl, rfl, ?_, ?_⟩
              · simp only [backH, List.cons_append, List.nil_append, List.map_cons, List.map_nil, renCk, renA hA, rwC.ren, ← hA, setAll, List.length_cons, List.length_nil, List.drop_succ_cons, List.drop_zero]
                rfl
              clear hS hP
              cbv
              (try simp only [ncast] at *)
              refine ifB_intro (fun h => ?_) (fun h => ?_)
              · have g5 := h
                (try simp only [wA hA] at g5)
                (try rw [h]); clear h
                cbv
                (try simp only [ncast] at *)
                have hrd : rdD xs p large = .error e5 := by
                  rw [← hD, hrd0]
                  rcases hLi with ⟨_, _, h⟩ | ⟨h, _⟩
                  · rw [h]
                  · exact absurd h g5
                subst hA hq
                refine Fin_of ⟨[(4, .nilS), (5, .nilS), (6, .int .i64 e5)], [.box 71 [.sl 1 0 m false, .int .i64 pI5, .int .i64 er5], .vw (R.ints .u8 xs), .gone]⟩ ?_ ⟨p5, 0, 0, pI5, er5, e5, [], [], hP5, .inl ⟨by omega, hrd⟩, .inl ⟨by omega, rfl, rfl⟩⟩
                exact Sb [0, 1, 1]
              · have g5 := h
                (try simp only [wA hA] at g5)
                (try rw [h]); clear h
                cbv
                (try simp only [ncast] at *)
                obtain ⟨hr5, hol, hli⟩ : er5 = 0 ∧ (o.length : Int) = la + lb ∧ liM t xs (la + lb) (la + lb).toNat p4 [] = .ok (o, p5) := by
                  rcases hLi with ⟨h, _⟩ | ⟨_, h⟩
                  · exact absurd g5 h
                  · exact h
                subst hr5
                rw [hli] at hrd0
                clear hLi hli
                obtain ⟨aN, haN⟩ : ∃ k : Nat, k = la.toNat := ⟨_, rfl⟩
                obtain ⟨bN, hbN⟩ : ∃ k : Nat, aN + k = k5 := ⟨k5 - aN, by omega⟩
                obtain ⟨lit, hlit⟩ : ∃ v, v = o.take aN := ⟨_, rfl⟩
                obtain ⟨dist, hdist⟩ : ∃ v, v = o.drop aN := ⟨_, rfl⟩
                have hll : aN = lit.length := by rw [hlit, List.length_take]; omega
                have hdl : bN = dist.length := by rw [hdist, List.length_drop]; omega
                have hlo : lit ++ dist = o := by rw [hlit, hdist, List.take_append_drop]
                have hrd0 : D = open Classical in if RgP lit dist large then Except.ok (lit, dist, p5) else Except.error 6 := by
                  rw [hlit, hdist, haN]; exact hrd0
                have i0 : A.ix 0 (A.nat 0) 1 = 0 := by rw [ixA hA, natA hA]; rfl
                have i1 : A.cnt la (A.nat 0) = aN := by rw [cntA hA, natA hA, haN]; congr 1; omega
                have i2 : A.ix 0 la 1 = aN := by rw [ixA hA, haN]; omega
                have i3 : A.cnt (A.nat k5) la = bN := by rw [cntA hA, natA hA]; omega
                have c0 : A.ge0 (A.nat 0) := by rw [ge0A hA, natA hA]; omega
                have c1 : A.leI (A.nat 0) la := by rw [leIA hA, natA hA]; omega
                have c2 : A.leI la (A.nat k5) := by rw [leIA hA, natA hA]; omega
                have c3 : A.ge0 la := by rw [ge0A hA]; omega
                have c4 : A.leI (A.nat k5) (A.nat k5) := by rw [leIA hA]; omega
                have c5 : A.leI la la := by rw [leIA hA]; omega
                refine ⟨c0, c1, c2, c3, c2, c4, ?_⟩
                simp only [i0, i1, i2, i3]
                refine call_rright17 hC hA (h1 := 5) (o1 := 0) (h2 := 5) (o2 := aN) hll hdl (by omega) (by omega) (win_cells hA rfl (by rw [List.drop_zero]; exact hlit) (by omega)) (win_cells hA rfl (by rw [hdist, hdl, hdist, List.take_length]) (by omega)) ⟨⟨(show 0 < 2 by omega), rfl, rfl, rfl⟩, ⟨(show 1 < 2 by omega), rfl, Nat.add_zero _, rfl⟩, ⟨trivial, trivial, rfl⟩, trivial⟩ fun t ht => ?_
                have hnt : A.not true = false := by rw [notA hA]; rfl
                have hnf : A.not false = true := by rw [notA hA]; rfl
                cases t with
                | false =>
                  have hrd : rdD xs p large = .error 6 := by
                    rw [← hD, hrd0, if_neg (fun h => absurd (ht.2 h) (by simp))]
                  cbv
                  (try simp only [ncast] at *)
                  simp only [hnf]
                  cbv
                  (try simp only [ncast] at *)
                  subst hA hq
                  refine Fin_of ⟨[(4, .nilS), (5, .nilS), (6, .int .i64 6)], [.box 71 [.sl 1 0 m false, .int .i64 pI5, .int .i64 0], .vw (R.ints .u8 xs), .gone]⟩ ?_ ⟨p5, 0, 0, pI5, 0, 6, [], [], hP5, .inl ⟨by omega, hrd⟩, .inl ⟨by omega, rfl, rfl⟩⟩
                  exact Sb [0, 1, 1]
                | true =>
                  have hrg := ht.1 rfl
                  rw [if_pos hrg] at hrd0
                  rw [hD] at hrd0
                  clear ht hD
                  cbv
                  (try simp only [ncast] at *)
                  simp only [hnt]
                  cbv
                  (try simp only [ncast] at *)
                  refine ⟨by first | exact c0 | assumption, by first | exact c1 | assumption, by first | exact c2 | exact c5 | assumption, ?_⟩
                  refine ⟨c3, c2, c4, ?_⟩
                  have i4 : A.ix 0 la 1 = 0 + aN := by rw [i2]; omega
                  simp only [i0, i1, i4, i3]
                  subst hA hq
                  refine Fin_of ⟨[(4, .sl 2 0 aN false), (5, .sl 2 aN bN false), (6, .int .i64 0)], [.box 71 [.sl 1 0 m false, .int .i64 pI5, .int .i64 0], .vw (R.ints .u8 xs), .lst 3 1 (R.ints .i64 o)]⟩ ?_ ⟨p5, aN, bN, pI5, 0, 0, lit, dist, hP5, .inr ⟨rfl, rfl, hrg, hrd0⟩, .inr ⟨rfl, hll, hdl, rfl, by rw [hlo]⟩⟩
                  exact Sb [0, 1, 5]
          · have hrd : rdD xs p large = .error 3 := by
              rw [← hD, hrd0, if_pos hl]
            refine ifT (by simp only [neqA hA]; simp) fun h => ?_
            (try rw [h]); clear h
            cbv
            (try simp only [ncast] at *)
            subst hA hq
            refine Fin_of ⟨[(4, .nilS), (5, .nilS), (6, .int .i64 3)], [.box 71 [.sl 1 0 m false, .int .i64 pI4, .int .i64 3], .vw (R.ints .u8 xs), .gone]⟩ ?_ ⟨p4, 0, 0, pI4, 3, 3, [], [], hP, .inl ⟨by omega, hrd⟩, .inl ⟨by omega, rfl, rfl⟩⟩
            exact Sb [0, 1, 1]
end Go.Sx

/- inflate: the document's copy: the contract. -/
set_option maxRecDepth 100000
set_option maxHeartbeats 4000000
set_option linter.unusedVariables false
set_option linter.unusedSimpArgs false
namespace Go.Sx
open Go.Proofs.Tryd

theorem s_rcopy18 (xs : List Int) (m p k ln : Nat) (pI wd mo stI code : Int) (large : Bool) (o dl : List Int) (cs : List SV) (hP : RP xs m p pI) (hk : k = o.length) (hB : BB xs mo) (hO : OB xs mo p o)
    (hLn : Lens dl) (hln : ln = dl.length) (rwC : RWs CodeK (codesL dl) cs) :
    Spec prog 81 [.ptr 0 0, .int .i64 code, .sl 5 0 ln false] [.vw [.ptr 1 0, .ptr 3 0, .bool large, .int .i64 stI], .box 71 [.sl 2 0 m false, .int .i64 pI, .int .i64 0], .vw (R.ints .u8 xs), .box 74 [.int .i64 wd, .int .i64 mo, .bool false, .lst 4 k], .lst 5 1 (R.ints .u8 o), .vw cs]
    (fun r H => ∃ (p' k' : Nat) (pI' er' e : Int) (o' : List Int), RP xs m p' pI' ∧ CpR xs wd mo large dl p o code e p' o' er' ∧ k' = o'.length ∧ r = .int .i64 e ∧
      H = [.vw [.ptr 1 0, .ptr 3 0, .bool large, .int .i64 stI], .box 71 [.sl 2 0 m false, .int .i64 pI', .int .i64 er'], .vw (R.ints .u8 xs), .box 74 [.int .i64 wd, .int .i64 mo, .bool false, .lst 6 k'], .gone, .vw cs, .lst 5 1 (R.ints .u8 o')]) := by
  refine Spec_of_kF (D := fun i => (0, [])) (ks := [0, 1, 2, 6, 7, 8, 9, 10, 11, 12, 13, 14]) tok mixed (fn := f81) rfl rfl rfl (by kernel_rfl) (N := 106) rfl (rs := [.tmp 6]) rfl (Nat.le_of_ble_eq_true rfl) fun A C Kp E ag L q hA hC hK hE hag hL hq => ?_
  rw [← hA]
  have hxs : xs = xs.take m := by rw [hP.2.2.2.1, List.take_length]
  have hmx : m ≤ xs.length := by rw [hP.2.2.2.1]; omega
  obtain ⟨D, hDD⟩ : ∃ D, D = cpM xs wd mo large dl p o code := ⟨_, rfl⟩
  have hd0 := hDD
  unfold cpM at hd0
  have hnt : A.not true = false := by rw [notA hA]; rfl
  have hnf : A.not false = true := by rw [notA hA]; rfl
  have hpl := hP.2.1
  cbv
  (try simp only [ncast] at *)
  refine call_rlength hC fun la bI ok hL => ?_
  rcases lenF_of hL with ⟨rfl, hLF⟩ | ⟨rfl, n1, hbI, hLF, la1, la2, hn1⟩
  · rw [hLF] at hd0
    dsimp only at hd0
    cbv
    (try simp only [ncast] at *)
    simp only [hnf]
    cbv
    (try simp only [ncast] at *)
    subst hA hq
    have hrd : cpM xs wd mo large dl p o code = .error 7 := by rw [← hDD]; exact hd0
    refine Fin_of ⟨[(6, .int .i64 7)], [.vw [.ptr 1 0, .ptr 3 0, .bool large, .int .i64 stI], .box 71 [.sl 2 0 m false, .int .i64 pI, .int .i64 0], .vw (R.ints .u8 xs), .box 74 [.int .i64 wd, .int .i64 mo, .bool false, .lst 6 k], .gone, .vw cs, .lst 5 1 (R.ints .u8 o)]⟩ ?_ ⟨p, k, pI, 0, 7, o, hP, .inl ⟨by omega, hrd⟩, hk, rfl, rfl⟩
    exact Sc [0, 1, 2, 3, 4, 5, 4] (by repeat' (first | exact trivial | exact fun _ => rfl | exact fun h => absurd h (by simp) | exact subC_ints rfl | exact subC_rw rwC rfl | exact subC_rwv rwC rfl rfl | refine And.intro ?_ ?_ | rfl | (simp [subH_nil, hLts, hLt, renCk, renC, sg, Ck.cells, R_ints_ren, R_ints_hLts]; done)))
  · rw [hLF] at hd0
    dsimp only at hd0
    cbv
    (try simp only [ncast] at *)
    simp only [hnt]
    cbv
    (try simp only [ncast] at *)
    refine call_rbits hC hA (hb := 1) (hv := 2) (ws := xs) (n := bI) hP (by decide) rfl rfl hxs hmx fun p1 pI1 er1 z hP1 hB1 => ?_
    have e1 : bI.toNat = n1 := by omega
    rcases bits0 rfl (by omega) hB1 with ⟨h1, h2, h3, h4⟩ | ⟨h1, h2, h3, h4⟩
    · subst h3
      rw [e1] at h1
      rw [if_pos (by omega)] at hd0
      cbv
      (try simp only [ncast] at *)
      refine ifT (by simp only [neqA hA]; simp) fun h => ?_
      (try rw [h]); clear h
      cbv
      (try simp only [ncast] at *)
      subst hA hq
      have hrd : cpM xs wd mo large dl p o code = .error 3 := by rw [← hDD]; exact hd0
      refine Fin_of ⟨[(6, .int .i64 3)], [.vw [.ptr 1 0, .ptr 3 0, .bool large, .int .i64 stI], .box 71 [.sl 2 0 m false, .int .i64 pI1, .int .i64 3], .vw (R.ints .u8 xs), .box 74 [.int .i64 wd, .int .i64 mo, .bool false, .lst 6 k], .gone, .vw cs, .lst 5 1 (R.ints .u8 o)]⟩ ?_ ⟨p1, k, pI1, 3, 3, o, hP1, .inl ⟨by omega, hrd⟩, hk, rfl, rfl⟩
      exact Sc [0, 1, 2, 3, 4, 5, 4] (by repeat' (first | exact trivial | exact fun _ => rfl | exact fun h => absurd h (by simp) | exact subC_ints rfl | exact subC_rw rwC rfl | exact subC_rwv rwC rfl rfl | refine And.intro ?_ ?_ | rfl | (simp [subH_nil, hLts, hLt, renCk, renC, sg, Ck.cells, R_ints_ren, R_ints_hLts]; done)))
    · subst h3
      rw [e1] at h1 h2 h4
      rw [if_neg (by omega), ← h2, ← h4] at hd0
      have hzb := cut_b (V xs) p (n := n1)
      have hpw := pow16 (show n1 ≤ 16 by omega)
      rw [← h2] at hzb
      clear hB1 h2
      obtain ⟨nn, hnn⟩ : ∃ v, v = la + z := ⟨_, rfl⟩
      rw [← hnn] at hd0
      have w1 : A.wrap .i64 z = z := by rw [wrapA hA, wrap64 (by omega)]
      have x1 : A.bin .add .i64 la z = nn := by rw [addA hA, wrap64 (by omega), hnn]
      cbv
      (try simp only [ncast] at *)
      simp only [w1, x1]
      refine ifF (by simp only [neqA hA]; simp) fun h => ?_
      (try rw [h]); clear h
      cbv
      (try simp only [ncast] at *)
      refine call_rnext hC hA (hc := 5) (hb := 1) (hv := 2) (ws := xs) hLn hln rwC hP1 (by decide) (cells_vwD rfl rfl) rfl rfl hxs hmx ⟨(show 0 < 3 by omega), rfl, rfl, rfl⟩ fun p2 pI2 y e hP2 hN => ?_
      have hnx := nxM_of hLn hN
      rw [hnx] at hd0
      dsimp only at hd0
      have hok := NextQ_ok hLn hN
      clear hN hP1
      cbv
      (try simp only [ncast] at *)
      refine ifB_intro (fun h => ?_) (fun h => ?_)
      · have he := h
        (try simp only [wA hA] at he)
        (try rw [h]); clear h
        cbv
        (try simp only [ncast] at *)
        rw [if_pos he] at hd0
        subst hA hq
        have hrd : cpM xs wd mo large dl p o code = .error e := by rw [← hDD]; exact hd0
        refine Fin_of ⟨[(6, .int .i64 e)], [.vw [.ptr 1 0, .ptr 3 0, .bool large, .int .i64 stI], .box 71 [.sl 2 0 m false, .int .i64 pI2, .int .i64 0], .vw (R.ints .u8 xs), .box 74 [.int .i64 wd, .int .i64 mo, .bool false, .lst 6 k], .gone, .vw cs, .lst 5 1 (R.ints .u8 o)]⟩ ?_ ⟨p2, k, pI2, 0, e, o, hP2, .inl ⟨by omega, hrd⟩, hk, rfl, rfl⟩
        exact Sc [0, 1, 2, 3, 4, 5, 4] (by repeat' (first | exact trivial | exact fun _ => rfl | exact fun h => absurd h (by simp) | exact subC_ints rfl | exact subC_rw rwC rfl | exact subC_rwv rwC rfl rfl | refine And.intro ?_ ?_ | rfl | (simp [subH_nil, hLts, hLt, renCk, renC, sg, Ck.cells, R_ints_ren, R_ints_hLts]; done)))
      · have he := h
        (try simp only [wA hA] at he)
        (try rw [h]); clear h
        cbv
        (try simp only [ncast] at *)
        rw [if_neg (by omega)] at hd0
        obtain ⟨hy0, hyl, hp12, hp2l⟩ := hok (by omega)
        refine call_rdistance hC fun da b2I ok2 hL2 => ?_
        rcases distF_of hL2 with ⟨rfl, hLF2⟩ | ⟨rfl, n2, hb2I, hLF2, da1, da2, hn2⟩
        · rw [hLF2] at hd0
          dsimp only at hd0
          cbv
          (try simp only [ncast] at *)
          simp only [hnf]
          cbv
          (try simp only [ncast] at *)
          subst hA hq
          have hrd : cpM xs wd mo large dl p o code = .error 7 := by rw [← hDD]; exact hd0
          refine Fin_of ⟨[(6, .int .i64 7)], [.vw [.ptr 1 0, .ptr 3 0, .bool large, .int .i64 stI], .box 71 [.sl 2 0 m false, .int .i64 pI2, .int .i64 0], .vw (R.ints .u8 xs), .box 74 [.int .i64 wd, .int .i64 mo, .bool false, .lst 6 k], .gone, .vw cs, .lst 5 1 (R.ints .u8 o)]⟩ ?_ ⟨p2, k, pI2, 0, 7, o, hP2, .inl ⟨by omega, hrd⟩, hk, rfl, rfl⟩
          exact Sc [0, 1, 2, 3, 4, 5, 4] (by repeat' (first | exact trivial | exact fun _ => rfl | exact fun h => absurd h (by simp) | exact subC_ints rfl | exact subC_rw rwC rfl | exact subC_rwv rwC rfl rfl | refine And.intro ?_ ?_ | rfl | (simp [subH_nil, hLts, hLt, renCk, renC, sg, Ck.cells, R_ints_ren, R_ints_hLts]; done)))
        · rw [hLF2] at hd0
          dsimp only at hd0
          cbv
          (try simp only [ncast] at *)
          simp only [hnt]
          cbv
          (try simp only [ncast] at *)
          refine call_rbits hC hA (hb := 1) (hv := 2) (ws := xs) (n := b2I) hP2 (by decide) rfl rfl hxs hmx fun p3 pI3 er3 z2 hP3 hB3 => ?_
          have e2 : b2I.toNat = n2 := by omega
          rcases bits0 rfl (by omega) hB3 with ⟨h5, h6, h7, h8⟩ | ⟨h5, h6, h7, h8⟩
          · subst h7
            rw [e2] at h5
            rw [if_pos (by omega)] at hd0
            cbv
            (try simp only [ncast] at *)
            refine ifT (by simp only [neqA hA]; simp) fun h => ?_
            (try rw [h]); clear h
            cbv
            (try simp only [ncast] at *)
            subst hA hq
            have hrd : cpM xs wd mo large dl p o code = .error 3 := by rw [← hDD]; exact hd0
            refine Fin_of ⟨[(6, .int .i64 3)], [.vw [.ptr 1 0, .ptr 3 0, .bool large, .int .i64 stI], .box 71 [.sl 2 0 m false, .int .i64 pI3, .int .i64 3], .vw (R.ints .u8 xs), .box 74 [.int .i64 wd, .int .i64 mo, .bool false, .lst 6 k], .gone, .vw cs, .lst 5 1 (R.ints .u8 o)]⟩ ?_ ⟨p3, k, pI3, 3, 3, o, hP3, .inl ⟨by omega, hrd⟩, hk, rfl, rfl⟩
            exact Sc [0, 1, 2, 3, 4, 5, 4] (by repeat' (first | exact trivial | exact fun _ => rfl | exact fun h => absurd h (by simp) | exact subC_ints rfl | exact subC_rw rwC rfl | exact subC_rwv rwC rfl rfl | refine And.intro ?_ ?_ | rfl | (simp [subH_nil, hLts, hLt, renCk, renC, sg, Ck.cells, R_ints_ren, R_ints_hLts]; done)))
          · subst h7
            rw [e2] at h5 h6 h8
            rw [if_neg (by omega), ← h6, ← h8] at hd0
            have hzb2 := cut_b (V xs) p2 (n := n2)
            have hpw2 := pow16 (show n2 ≤ 16 by omega)
            rw [← h6] at hzb2
            clear hB3 h6 hP2
            obtain ⟨dd, hdd⟩ : ∃ v, v = da + z2 := ⟨_, rfl⟩
            rw [← hdd] at hd0
            have w2 : A.wrap .i64 z2 = z2 := by rw [wrapA hA, wrap64 (by omega)]
            have x2 : A.bin .add .i64 da z2 = dd := by rw [addA hA, wrap64 (by omega), hdd]
            cbv
            (try simp only [ncast] at *)
            simp only [w2, x2]
            refine ifF (by simp only [neqA hA]; simp) fun h => ?_
            (try rw [h]); clear h
            cbv
            (try simp only [ncast] at *)
            refine call_rcopy hC hA (hb := 3) (hr := 4) hk (hO.mq hB (by omega)) (by decide) rfl rfl fun e3 k3 ys hCp hk3 => ?_
            have hR := CpQ_fin hDD hd0 hO (show p + 1 ≤ p3 by omega) (by omega) (by omega) (by omega) hCp
            clear hCp
            cbv
            (try simp only [ncast] at *)
            subst hA hq
            refine Fin_of ⟨[(6, .int .i64 e3)], [.vw [.ptr 1 0, .ptr 3 0, .bool large, .int .i64 stI], .box 71 [.sl 2 0 m false, .int .i64 pI3, .int .i64 0], .vw (R.ints .u8 xs), .box 74 [.int .i64 wd, .int .i64 mo, .bool false, .lst 6 k3], .gone, .vw cs, .lst 5 1 (R.ints .u8 ys)]⟩ ?_ ⟨p3, k3, pI3, 0, e3, ys, hP3, hR, hk3, rfl, rfl⟩
            exact Sc [0, 1, 2, 3, 4, 5, 6] (by repeat' (first | exact trivial | exact fun _ => rfl | exact fun h => absurd h (by simp) | exact subC_ints rfl | exact subC_rw rwC rfl | exact subC_rwv rwC rfl rfl | refine And.intro ?_ ?_ | rfl | (simp [subH_nil, hLts, hLt, renCk, renC, sg, Ck.cells, R_ints_ren, R_ints_hLts]; done)))
end Go.Sx

/- inflate: the document's words: the contract. -/
set_option maxRecDepth 100000
set_option maxHeartbeats 4000000
set_option linter.unusedVariables false
set_option linter.unusedSimpArgs false
namespace Go.Sx
open Go.Proofs.Tryd

/-- All chunks, behind. -/
def wrH (A : Ar) (large : Bool) (m k : Nat) (st pI er : Int) (xs o : List Int) (wd mo : Int) (cs1 cs2 : List SV) : List Ck :=
  [.box 76 [.ptr 1 0, .ptr 3 0, .bool large, .int .i64 st], .box 71 [.sl 2 0 m false, .int .i64 pI, .int .i64 er], .vw (A.ints .u8 xs), .box 74 [.int .i64 wd, .int .i64 mo, .bool false, .lst 7 k], .gone, .vw cs1, .vw cs2, .lst 5 1 (A.ints .u8 o)]
theorem s_rwords18 (xs : List Int) (m p k l1 l2 : Nat) (pI wd mo st : Int) (large : Bool) (o ll dl : List Int) (cs1 cs2 : List SV) (hP : RP xs m p pI) (hk : k = o.length) (hB : BB xs mo) (hO : OB xs mo p o) (hst : 0 ≤ st ∧ st ≤ p)
    (hL1 : Lens ll) (hl1 : l1 = ll.length) (rwC1 : RWs CodeK (codesL ll) cs1) (hL2 : Lens dl) (hl2 : l2 = dl.length) (rwC2 : RWs CodeK (codesL dl) cs2) :
    Spec prog 58 [.ptr 0 0, .sl 5 0 l1 false, .sl 6 0 l2 false] [.box 76 [.ptr 1 0, .ptr 3 0, .bool large, .int .i64 st], .box 71 [.sl 2 0 m false, .int .i64 pI, .int .i64 0], .vw (R.ints .u8 xs), .box 74 [.int .i64 wd, .int .i64 mo, .bool false, .lst 4 k], .lst 5 1 (R.ints .u8 o), .vw cs1, .vw cs2]
    (fun r H => ∃ (p' k' : Nat) (pI' er' st' e : Int) (o' : List Int), RP xs m p' pI' ∧ WdR xs wd mo large ll dl p o st e p' o' st' er' ∧ k' = o'.length ∧ r = .int .i64 e ∧ H = wrH R large m k' st' pI' er' xs o' wd mo cs1 cs2) := by
  refine Spec_of_kF (D := fun i => (0, [])) (ks := [0, 1, 2, 6, 7, 8]) tok mixed (fn := f58) rfl rfl rfl (by kernel_rfl) (N := 62) rfl (rs := [.tmp 6]) rfl (Nat.le_of_ble_eq_true rfl) fun A C Kp E ag L q hA hC hK hE hag hL hq => ?_
  rw [← hA]
  have hxs : xs = xs.take m := by rw [hP.2.2.2.1, List.take_length]
  have hmx : m ≤ xs.length := by rw [hP.2.2.2.1]; omega
  have hxl : xs.length ≤ 1000000000 := hP.2.2.2.2
  cbv
  obtain ⟨M0, hM0⟩ : ∃ M, M = wdM xs wd mo large ll dl (8 * xs.length + 1) p o st := ⟨_, rfl⟩
  obtain ⟨ps, hps0⟩ : ∃ q : Nat, q = p := ⟨_, rfl⟩
  rw [hL]
  refine ⟨fun kk s => ∃ (f p k : Nat) (pI st : Int) (o : List Int), M0 = wdM xs wd mo large ll dl f p o st ∧ ps ≤ p ∧ 8 * xs.length < f + p ∧ OB xs mo p o ∧ 0 ≤ st ∧ st ≤ p ∧ k = o.length ∧ RP xs m p pI ∧ kk = 8 * xs.length + 1 - p ∧
      s = ⟨[(0, .ptr 0 0), (1, .sl 5 0 l1 false), (2, .sl 6 0 l2 false)], wrH A large m k st pI 0 xs o wd mo cs1 cs2⟩,
    ⟨_, ⟨[(0, .ptr 0 0), (1, .sl 5 0 l1 false), (2, .sl 6 0 l2 false)], wrH A large m k st pI 0 xs o wd mo cs1 cs2⟩, ?_, 8 * xs.length + 1, p, k, pI, st, o, hM0, by omega, by omega, hO, hst.1, hst.2, hk, hP, rfl, rfl⟩, ?_⟩
  · subst hA
    unfold wrH
    exact Sc [0, 1, 2, 3, 4, 5, 6, 4] (by repeat' (first | exact trivial | exact fun _ => rfl | exact fun h => absurd h (by simp) | exact subC_ints rfl | exact subC_rw rwC1 rfl | exact subC_rw rwC2 rfl | exact subC_rwv rwC1 rfl rfl | exact subC_rwv rwC2 rfl rfl | refine And.intro ?_ ?_ | rfl | (simp [subH_nil, hLts, hLt, renCk, renC, sg, Ck.cells, R_ints_ren, R_ints_hLts]; done)))
  clear hP hO hst hk
  rintro kk _ ⟨f, p1, k1, pI1, st1, o1, hM, hps, hf, hO, hst0, hst1, hk, hP, hkk, rfl⟩
  have hstep := wdM_step (xs := xs) (wd := wd) (mo := mo) (large := large) (ll := ll) (dl := dl) (f := f) (p := p1) (o := o1) (st := st1) (by have := hO.2.2; omega)
  rw [← hM] at hstep
  clear hM
  have hp1l := hO.2.2
  cbv
  (try simp only [ncast] at *)
  refine ifT (by simp only [eqlA hA]; simp) fun h => ?_
  (try rw [h]); clear h
  cbv
  (try simp only [ncast] at *)
  refine call_rnext hC hA (hc := 5) (hb := 1) (hv := 2) (ws := xs) hL1 hl1 rwC1 hP (by decide) (cells_vwD rfl rfl) rfl rfl hxs hmx ⟨(show 0 < 3 by omega), rfl, rfl, rfl⟩ fun p2 pI2 y e hP2 hN => ?_
  rw [nxM_of hL1 hN] at hstep
  dsimp only at hstep
  have hok := NextQ_ok hL1 hN
  clear hN hP
  obtain ⟨st2, hst2⟩ : ∃ v, v = st1 + 1 := ⟨_, rfl⟩
  have e1 : A.bin .add .i64 st1 1 = st2 := by rw [addA hA, wrap64 (by omega), hst2]
  rw [← hst2] at hstep
  cbv
  (try simp only [ncast] at *)
  refine ifB_intro (fun h => ?_) (fun h => ?_)
  · have he := h
    (try simp only [wA hA] at he)
    (try rw [h]); clear h
    cbv
    (try simp only [ncast] at *)
    rw [if_pos he] at hstep
    have hW : WdR xs wd mo large ll dl p o st e p2 o1 st1 0 := .inl ⟨he, by rw [← hM0]; exact hstep⟩
    subst hA hq
    refine Fin_of ⟨[(6, .int .i64 e)], wrH R large m k1 st1 pI2 0 xs o1 wd mo cs1 cs2⟩ ?_ ⟨p2, k1, pI2, 0, st1, e, o1, hP2, hW, hk, rfl, rfl⟩
    unfold wrH
    exact Sc [0, 1, 2, 3, 4, 5, 6, 7] (by repeat' (first | exact trivial | exact fun _ => rfl | exact fun h => absurd h (by simp) | exact subC_ints rfl | exact subC_rw rwC1 rfl | exact subC_rw rwC2 rfl | exact subC_rwv rwC1 rfl rfl | exact subC_rwv rwC2 rfl rfl | refine And.intro ?_ ?_ | rfl | (simp [subH_nil, hLts, hLt, renCk, renC, sg, Ck.cells, R_ints_ren, R_ints_hLts]; done)))
  · have he := h
    (try simp only [wA hA] at he)
    (try rw [h]); clear h
    cbv
    (try simp only [ncast] at *)
    rw [if_neg (by omega)] at hstep
    obtain ⟨hy0, hyl, hp12, hp2l⟩ := hok (by omega)
    clear hok
    have hO2 : OB xs mo p2 o1 := by
      obtain ⟨o1, o2, o3⟩ := hO
      exact ⟨o1, by omega, hp2l⟩
    simp only [e1]
    refine ifB_intro (fun h => ?_) (fun h => ?_)
    · have h2 := h
      (try simp only [wA hA] at h2)
      (try rw [h]); clear h
      cbv
      (try simp only [ncast] at *)
      rw [if_pos h2] at hstep
      have hW : WdR xs wd mo large ll dl p o st 0 p2 o1 st2 0 := .inr ⟨rfl, rfl, hO2, by omega, by omega, by omega, by rw [← hM0]; exact hstep⟩
      subst hA hq
      refine Fin_of ⟨[(6, .int .i64 0)], wrH R large m k1 st2 pI2 0 xs o1 wd mo cs1 cs2⟩ ?_ ⟨p2, k1, pI2, 0, st2, 0, o1, hP2, hW, hk, rfl, rfl⟩
      unfold wrH
      exact Sc [0, 1, 2, 3, 4, 5, 6, 7] (by repeat' (first | exact trivial | exact fun _ => rfl | exact fun h => absurd h (by simp) | exact subC_ints rfl | exact subC_rw rwC1 rfl | exact subC_rw rwC2 rfl | exact subC_rwv rwC1 rfl rfl | exact subC_rwv rwC2 rfl rfl | refine And.intro ?_ ?_ | rfl | (simp [subH_nil, hLts, hLt, renCk, renC, sg, Ck.cells, R_ints_ren, R_ints_hLts]; done)))
    · have h2 := h
      (try simp only [wA hA] at h2)
      (try rw [h]); clear h
      cbv
      (try simp only [ncast] at *)
      rw [if_neg h2] at hstep
      refine ifB_intro (fun h => ?_) (fun h => ?_)
      · have h256 := h
        (try simp only [wA hA] at h256)
        (try rw [h]); clear h
        cbv
        (try simp only [ncast] at *)
        rw [if_pos h256] at hstep
        have hwy : A.wrap .u8 y = y := by rw [wrapA hA, Go.IntKind.wrap_u8]; omega
        cbv
        (try simp only [ncast] at *)
        simp only [hwy]
        refine call_rlit hC hA (hb := 3) (hr := 7) hk hO.1 (by have := hO.len hB; omega) (by decide) rfl rfl fun e3 k3 ys hLi hk3 => ?_
        cbv
        (try simp only [ncast] at *)
        rcases hLi with ⟨g1, g2, g3⟩ | ⟨g1, g2, g3⟩
        · rw [if_pos g1] at hstep
          subst g2
          refine ifT (by simp only [neqA hA]; simp) fun h => ?_
          (try rw [h]); clear h
          cbv
          (try simp only [ncast] at *)
          have hW : WdR xs wd mo large ll dl p o st 9 p2 ys st2 0 := .inl ⟨by omega, by rw [← hM0]; exact hstep⟩
          subst hA hq
          refine Fin_of ⟨[(6, .int .i64 9)], wrH R large m k3 st2 pI2 0 xs ys wd mo cs1 cs2⟩ ?_ ⟨p2, k3, pI2, 0, st2, 9, ys, hP2, hW, hk3, rfl, rfl⟩
          unfold wrH
          exact Sc [0, 1, 2, 3, 4, 5, 6, 8] (by repeat' (first | exact trivial | exact fun _ => rfl | exact fun h => absurd h (by simp) | exact subC_ints rfl | exact subC_rw rwC1 rfl | exact subC_rw rwC2 rfl | exact subC_rwv rwC1 rfl rfl | exact subC_rwv rwC2 rfl rfl | refine And.intro ?_ ?_ | rfl | (simp [subH_nil, hLts, hLt, renCk, renC, sg, Ck.cells, R_ints_ren, R_ints_hLts]; done)))
        · rw [if_neg g1, ← g3] at hstep
          subst g2
          refine ifF (by simp only [neqA hA]; simp) fun h => ?_
          (try rw [h]); clear h
          cbv
          (try simp only [ncast] at *)
          have hyl2 : ys.length = o1.length + 1 := by rw [g3]; simp
          have hO3 : OB xs mo p2 ys := by
            obtain ⟨o1, o2, o3⟩ := hO
            exact ⟨by omega, by omega, hp2l⟩
          subst hag
          refine ⟨8 * xs.length + 1 - p2, ⟨[(0, .ptr 0 0), (1, .sl 5 0 l1 false), (2, .sl 6 0 l2 false)], wrH A large m k3 st2 pI2 0 xs ys wd mo cs1 cs2⟩, by omega, ?_, f - 1, p2, k3, pI2, st2, ys, hstep, by omega, by omega, hO3, by omega, by omega, hk3, hP2, rfl, rfl⟩
          subst hA
          unfold wrH
          exact Sc [0, 1, 2, 3, 4, 5, 6, 8] (by repeat' (first | exact trivial | exact fun _ => rfl | exact fun h => absurd h (by simp) | exact subC_ints rfl | exact subC_rw rwC1 rfl | exact subC_rw rwC2 rfl | exact subC_rwv rwC1 rfl rfl | exact subC_rwv rwC2 rfl rfl | refine And.intro ?_ ?_ | rfl | (simp [subH_nil, hLts, hLt, renCk, renC, sg, Ck.cells, R_ints_ren, R_ints_hLts]; done)))
      · have h256 := h
        (try simp only [wA hA] at h256)
        (try rw [h]); clear h
        cbv
        (try simp only [ncast] at *)
        rw [if_neg (by omega)] at hstep
        have hS := s_rcopy18 xs m p2 k1 l2 pI2 wd mo st2 y large o1 dl cs2 hP2 hk hB hO2 hL2 hl2 rwC2
        rw [← hA] at hS
        refine cal_of hC hS [(0, 0, false), (1, 0, true), (2, 0, false), (3, 0, true), (7, 0, true), (6, 0, false)] (by simp [lkOk]) ⟨⟨(show 1 < 6 by omega), (show 3 < 6 by omega), trivial, trivial, trivial⟩, ⟨trivial, trivial, trivial, trivial, trivial⟩, cells_box rfl rfl,
            rfl, ⟨(show 2 < 6 by omega), trivial, trivial, trivial⟩, ⟨trivial, trivial, trivial, trivial⟩, rfl,
            hLtsA hA .., zOksA hA .., vwA hA rfl (by rw [List.drop_zero]; exact hxs) hP2.2.2.2.1 (by omega),
            rfl, ⟨trivial, trivial, trivial, (show 4 < 6 by omega), trivial⟩, ⟨trivial, trivial, trivial, rfl, trivial⟩, rfl,
            rfl, hLtsA hA .., zOksA hA .., ?_,
            rwC2.hLts _, rwC2.zOks _, ?_, trivial⟩ ⟨⟨(show 0 < 6 by omega), trivial, rfl⟩, ⟨trivial, trivial, rfl⟩, ⟨(show 5 < 6 by omega), rfl, rfl, rfl⟩, trivial⟩ ?_
        · rw [renCk, renA hA]; rfl
        · rw [rwC2.ren]; exact cells_vwD rfl rfl
        rintro _ _ ⟨p3, k3, pI3, er3, e3, o3, hP3, hCp, hk3, rfl, rfl⟩
        refine ⟨_, .int .i64 e3, [.box 76 [.ptr 1 0, .ptr 3 0, .bool large, .int .i64 st2], .box 71 [.sl 2 0 m false, .int .i64 pI3, .int .i64 er3], .vw (A.ints .u8 xs), .box 74 [.int .i64 wd, .int .i64 mo, .bool false, .lst 8 k3], .gone, .vw cs1, .vw cs2, .gone, .lst 5 1 (A.ints .u8 o3)], rfl, rfl, ?_, ?_⟩
        · simp only [backH, List.cons_append, List.nil_append, List.map_cons, List.map_nil, renCk, renA hA, ← hA, setAll, List.length_cons, List.length_nil, List.drop_succ_cons, List.drop_zero]
          rfl
        clear hS hP2
        cbv
        (try simp only [ncast] at *)
        rcases hCp with ⟨g1, g2⟩ | ⟨rfl, rfl, hO3, hp3, g3⟩
        · rw [g2] at hstep
          have hW : WdR xs wd mo large ll dl p o st e3 p3 o3 st2 er3 := .inl ⟨g1, by rw [← hM0]; exact hstep⟩
          refine ifT (by simp only [neqA hA]; simp; exact g1) fun h => ?_
          (try rw [h]); clear h
          cbv
          (try simp only [ncast] at *)
          subst hA hq
          refine Fin_of ⟨[(6, .int .i64 e3)], wrH R large m k3 st2 pI3 er3 xs o3 wd mo cs1 cs2⟩ ?_ ⟨p3, k3, pI3, er3, st2, e3, o3, hP3, hW, hk3, rfl, rfl⟩
          unfold wrH
          exact Sc [0, 1, 2, 3, 4, 5, 6, 8] (by repeat' (first | exact trivial | exact fun _ => rfl | exact fun h => absurd h (by simp) | exact subC_ints rfl | exact subC_rw rwC1 rfl | exact subC_rw rwC2 rfl | exact subC_rwv rwC1 rfl rfl | exact subC_rwv rwC2 rfl rfl | refine And.intro ?_ ?_ | rfl | (simp [subH_nil, hLts, hLt, renCk, renC, sg, Ck.cells, R_ints_ren, R_ints_hLts]; done)))
        · rw [g3] at hstep
          dsimp only at hstep
          have hp3l := hO3.2.2
          refine ifF (by simp only [neqA hA]; simp) fun h => ?_
          (try rw [h]); clear h
          cbv
          (try simp only [ncast] at *)
          subst hag
          refine ⟨8 * xs.length + 1 - p3, ⟨[(0, .ptr 0 0), (1, .sl 5 0 l1 false), (2, .sl 6 0 l2 false)], wrH A large m k3 st2 pI3 0 xs o3 wd mo cs1 cs2⟩, by omega, ?_, f - 1, p3, k3, pI3, st2, o3, hstep, by omega, by omega, hO3, by omega, by omega, hk3, hP3, rfl, rfl⟩
          subst hA
          unfold wrH
          exact Sc [0, 1, 2, 3, 4, 5, 6, 8] (by repeat' (first | exact trivial | exact fun _ => rfl | exact fun h => absurd h (by simp) | exact subC_ints rfl | exact subC_rw rwC1 rfl | exact subC_rw rwC2 rfl | exact subC_rwv rwC1 rfl rfl | exact subC_rwv rwC2 rfl rfl | refine And.intro ?_ ?_ | rfl | (simp [subH_nil, hLts, hLt, renCk, renC, sg, Ck.cells, R_ints_ren, R_ints_hLts]; done)))
end Go.Sx

/- inflate: plain: the contract. -/
set_option maxRecDepth 100000
set_option maxHeartbeats 4000000
set_option linter.unusedVariables false
set_option linter.unusedSimpArgs false
namespace Go.Sx
open Go.Proofs.Tryd

theorem xor_ones (a : Nat) (h : a < 65536) : a ^^^ 65535 = 65535 - a := by
  have h1 := congrArg BitVec.toNat (BitVec.xor_allOnes (x := BitVec.ofNat 16 a))
  rw [BitVec.toNat_xor, BitVec.toNat_not, BitVec.toNat_allOnes, BitVec.toNat_ofNat, Nat.mod_eq_of_lt (show a < 2 ^ 16 from h)] at h1
  exact h1
theorem xor_iff {a b : Nat} (ha : a < 65536) (hb : b < 65536) : a ^^^ b = 65535 ↔ a + b = 65535 := by
  have ho := xor_ones a ha
  constructor
  · intro h
    have e : a ^^^ (a ^^^ b) = b := by rw [← Nat.xor_assoc, Nat.xor_self, Nat.zero_xor]
    rw [h, ho] at e
    omega
  · intro h
    have e : a ^^^ (a ^^^ 65535) = 65535 := by rw [← Nat.xor_assoc, Nat.xor_self, Nat.zero_xor]
    rw [ho] at e
    rw [show b = 65535 - a by omega]
    exact e
theorem bxor_iff {x y : Int} (hx : 0 ≤ x ∧ x < 65536) (hy : 0 ≤ y ∧ y < 65536) : bxor .u32 x y = 65535 ↔ x + y = 65535 := by
  obtain ⟨a, rfl⟩ : ∃ a : Nat, x = a := ⟨x.toNat, by omega⟩
  obtain ⟨b, rfl⟩ : ∃ b : Nat, y = b := ⟨y.toNat, by omega⟩
  have hl : a ^^^ b < 65536 := Nat.xor_lt_two_pow (n := 16) (by omega) (by omega)
  have e : bxor .u32 (a : Int) (b : Int) = ((a ^^^ b : Nat) : Int) := by
    unfold bxor
    rw [BitVec.toNat_xor, BitVec.ofInt_natCast, BitVec.ofInt_natCast, BitVec.toNat_ofNat, BitVec.toNat_ofNat, Nat.mod_eq_of_lt, Nat.mod_eq_of_lt, Go.IntKind.wrap_u32]
    · omega
    · show b < 2 ^ 32; omega
    · show a < 2 ^ 32; omega
  rw [e]
  have := xor_iff (a := a) (b := b) (by omega) (by omega)
  omega
theorem plL_step {xs : List Int} {mo : Int} {f p : Nat} {o : List Int} (hf : 0 < f) : plL xs mo f p o = if 8 * xs.length < p + 8 then .error 3 else if (o.length : Int) = mo then .error 9 else plL xs mo (f - 1) (p + 8) (o ++ [cut (V xs) p 8]) := by
  obtain ⟨g, rfl⟩ : ∃ g, f = g + 1 := ⟨f - 1, by omega⟩
  rw [plL]
  rfl
/-- What a block of bytes comes to. -/
def PlR (xs : List Int) (mo : Int) (p : Nat) (o : List Int) (st e : Int) (p' : Nat) (o' : List Int) (st' er' : Int) : Prop :=
  (e ≠ 0 ∧ plM xs mo p o = .error e) ∨ (e = 0 ∧ er' = 0 ∧ OB xs mo p' o' ∧ p + 1 ≤ p' ∧ 0 ≤ st' ∧ st' ≤ p' ∧ ∃ n : Int, plM xs mo p o = .ok (p', o', n) ∧ st' = st + n)
/-- All chunks, behind. -/
def plHA (A : Ar) (large : Bool) (m k : Nat) (st at_ hold nb er : Int) (xs o : List Int) (wd mo : Int) : List Ck :=
  [.box 63 [.ptr 1 0, .ptr 3 0, .bool large, .int .i64 st, .nilP, .nilP], .box 101 [.lst 2 m, .int .i64 at_, .int .u64 hold, .int .i64 nb, .int .i64 er, .bool true], .lst 5 1 (A.ints .u8 xs), .box 98 [.int .i64 wd, .int .i64 mo, .bool false, .lst 5 k], .gone, .lst 5 1 (A.ints .u8 o)]
theorem s_plainA (xs : List Int) (m p a b k : Nat) (at_ hold nb wd mo st : Int) (large : Bool) (o : List Int) (hx : RX xs m) (hF : RF xs p a b at_ hold nb) (hk : k = o.length) (hw : 0 < wd) (hB : BB xs mo) (hO : OB xs mo p o) (hst : 0 ≤ st ∧ st ≤ p) :
    Spec prog 50 [.ptr 0 0] [.box 63 [.ptr 1 0, .ptr 3 0, .bool large, .int .i64 st, .nilP, .nilP], .box 101 [.lst 2 m, .int .i64 at_, .int .u64 hold, .int .i64 nb, .int .i64 0, .bool true], .lst 5 1 (R.ints .u8 xs), .box 98 [.int .i64 wd, .int .i64 mo, .bool false, .lst 4 k], .lst 5 1 (R.ints .u8 o)]
    (fun r H => ∃ (a b p' k' : Nat) (at_ hold nb er' st' e : Int) (o' : List Int), RF xs p' a b at_ hold nb ∧ PlR xs mo p o st e p' o' st' er' ∧ k' = o'.length ∧ r = .int .i64 e ∧ H = plHA R large m k' st' at_ hold nb er' xs o' wd mo) := by
  refine Spec_of_kF (D := fun i => if i = 2 then (9, [1,2]) else (0, [])) (ks := [0, 2, 3, 4, 5, 6, 7, 40, 41]) tok mixed (fn := f50) rfl rfl rfl (by kernel_rfl) (N := 74) rfl (rs := [.tmp 2]) rfl (Nat.le_of_ble_eq_true rfl) fun A C Kp E ag L q hA hC hK hE hag hL hq => ?_
  rw [← hA]
  obtain ⟨D, hDD⟩ : ∃ D, D = plM xs mo p o := ⟨_, rfl⟩
  have hd0 := hDD
  unfold plM at hd0
  have hpl := hO.2.2
  have hxl : xs.length ≤ 1000000000000 := hx.2.2
  cbv
  (try simp only [ncast] at *)
  refine call_align1 hC hA (hb := 1) (hr := 2) hx hF (by decide) rfl rfl fun p0 a0 b0 at0 hold0 nb0 hF0 hp0 => ?_
  have hp0 : p0 = up8i p := by rw [hp0, if_pos rfl]; rfl
  have hpu : p ≤ p0 ∧ p0 ≤ 8 * xs.length := by rw [hp0]; unfold up8i; omega
  rw [← hp0] at hd0
  clear hp0 hF
  cbv
  (try simp only [ncast] at *)
  refine call_bits hC hA (hb := 1) (hr := 2) (n := 16) hx hF0 (by decide) rfl rfl fun a1 b1 p1 at1 hold1 nb1 er1 z1 hF1 hB1 => ?_
  have h1 : (8 * xs.length < p0 + 16 ∧ er1 = 3) ∨ (p0 + 16 ≤ 8 * xs.length ∧ z1 = cut (V xs) p0 16 ∧ er1 = 0 ∧ p1 = p0 + 16) := by
    rcases bits0 rfl (by omega) hB1 with h | h
    · exact .inl ⟨h.1, h.2.2.1⟩
    · exact .inr h
  clear hB1
  cbv
  (try simp only [ncast] at *)
  refine call_bits hC hA (hb := 1) (hr := 2) (n := 16) hx hF1 (by decide) rfl rfl fun a2 b2 p2 at2 hold2 nb2 er2 z2 hF2 hB2 => ?_
  have hall : (8 * xs.length < p0 + 32 ∧ er2 = 3) ∨ (p0 + 32 ≤ 8 * xs.length ∧ z1 = cut (V xs) p0 16 ∧ z2 = cut (V xs) (p0 + 16) 16 ∧ er2 = 0 ∧ p2 = p0 + 32) := by
    rcases h1 with ⟨g1, g2⟩ | ⟨g1, g2, g3, g4⟩
    · have := bits1 (by omega) hB2
      exact .inl ⟨by omega, by omega⟩
    · rcases bits0 g3 (by omega) hB2 with ⟨k1, _, k3, _⟩ | ⟨k1, k2, k3, k4⟩
      · have k1 : 8 * xs.length < p1 + 16 := k1
        exact .inl ⟨by omega, k3⟩
      · have k1 : p1 + 16 ≤ 8 * xs.length := k1
        have k4 : p2 = p1 + 16 := k4
        exact .inr ⟨by omega, g2, by rw [k2, g4]; rfl, k3, by omega⟩
  clear hB2 h1 hF0 hF1
  rcases hall with ⟨hs, rfl⟩ | ⟨hs, hz1, hz2, rfl, hp2⟩
  · rw [if_pos hs] at hd0
    have hW : PlR xs mo p o st 3 p2 o st 3 := .inl ⟨by omega, by rw [← hDD]; exact hd0⟩
    cbv
    (try simp only [ncast] at *)
    refine call_err hC (hb := 1) (hr := 2) rfl (by show 2 < 5; omega) ?_
    cbv
    (try simp only [ncast] at *)
    refine ifT (by simp only [neqA hA]; simp) fun h => ?_
    (try rw [h]); clear h
    cbv
    (try simp only [ncast] at *)
    refine call_err hC (hb := 1) (hr := 2) rfl (by show 2 < 5; omega) ?_
    cbv
    (try simp only [ncast] at *)
    subst hA hq
    refine Fin_of ⟨[(2, .int .i64 3)], plHA R large m k st at2 hold2 nb2 3 xs o wd mo⟩ ?_ ⟨a2, b2, p2, k, at2, hold2, nb2, 3, st, 3, o, hF2, hW, hk, rfl, rfl⟩
    unfold plHA
    exact Sb [0, 1, 2, 3, 4, 4]
  · rw [if_neg (by omega), ← hz1, ← hz2, ← hp2] at hd0
    have c1 := cut_b (V xs) p0 (n := 16)
    have c2 := cut_b (V xs) (p0 + 16) (n := 16)
    have e16 : (2 : Int) ^ 16 = 65536 := rfl
    rw [← hz1] at c1
    rw [← hz2] at c2
    clear hz1 hz2
    have hxo := bxor_iff (x := z1) (y := z2) (by omega) (by omega)
    obtain ⟨v, hv⟩ : ∃ v, v = A.bin .xor .u32 z1 z2 := ⟨_, rfl⟩
    have hxo : v = 65535 ↔ z1 + z2 = 65535 := by rw [hv, xorA hA]; exact hxo
    cbv
    (try simp only [ncast] at *)
    refine call_err hC (hb := 1) (hr := 2) rfl (by show 2 < 5; omega) ?_
    cbv
    (try simp only [ncast] at *)
    refine ifF (by simp only [neqA hA]; simp) fun h => ?_
    (try rw [h]); clear h
    cbv
    (try simp only [ncast] at *)
    simp only [← hv]
    refine ifB_intro (fun h => ?_) (fun h => ?_)
    · have h65 := h
      (try simp only [wA hA] at h65)
      (try rw [h]); clear h
      cbv
      (try simp only [ncast] at *)
      rw [if_pos (fun h => h65 (hxo.2 h))] at hd0
      have hW : PlR xs mo p o st 4 p2 o st 0 := .inl ⟨by omega, by rw [← hDD]; exact hd0⟩
      subst hA hq
      refine Fin_of ⟨[(2, .int .i64 4)], plHA R large m k st at2 hold2 nb2 0 xs o wd mo⟩ ?_ ⟨a2, b2, p2, k, at2, hold2, nb2, 0, st, 4, o, hF2, hW, hk, rfl, rfl⟩
      unfold plHA
      exact Sb [0, 1, 2, 3, 4, 4]
    · have h65 := h
      (try simp only [wA hA] at h65)
      (try rw [h]); clear h
      cbv
      (try simp only [ncast] at *)
      rw [if_neg (not_not_intro (hxo.1 h65))] at hd0
      clear hxo hv
      obtain ⟨nN, hnN⟩ : ∃ k : Nat, k = z1.toNat := ⟨_, rfl⟩
      rw [← hnN] at hd0
      obtain ⟨L0, hL0⟩ : ∃ L, L = plL xs mo nN p2 o := ⟨_, rfl⟩
      rw [← hL0] at hd0
      obtain ⟨st0, hst0⟩ : ∃ v, v = st := ⟨_, rfl⟩
      obtain ⟨ps, hps⟩ : ∃ v, v = p := ⟨_, rfl⟩
      have hO2 : OB xs mo p2 o := by
        obtain ⟨o1, o2, o3⟩ := hO
        exact ⟨o1, by omega, by omega⟩
      rw [hL]
      refine ⟨fun kk s => ∃ (i p a b k : Nat) (iI at_ hold nb st : Int) (o : List Int), iI = i ∧ i ≤ nN ∧ L0 = plL xs mo (nN - i) p o ∧ st = st0 + i ∧ ps + 1 ≤ p ∧ OB xs mo p o ∧ st ≤ p ∧ k = o.length ∧ RF xs p a b at_ hold nb ∧ kk = nN - i ∧
          s = ⟨[(0, .ptr 0 0), (40, .int .u32 z1), (41, .int .u32 iI)], plHA A large m k st at_ hold nb 0 xs o wd mo⟩,
        ⟨_, ⟨[(0, .ptr 0 0), (40, .int .u32 z1), (41, .int .u32 0)], plHA A large m k st at2 hold2 nb2 0 xs o wd mo⟩, ?_, 0, p2, a2, b2, k, 0, at2, hold2, nb2, st, o, rfl, by omega, hL0, by omega, by omega, hO2, by omega, hk, hF2, rfl, rfl⟩, ?_⟩
      · subst hA
        unfold plHA
        exact Sb [0, 1, 2, 3, 4, 4]
      clear hF2 hO hO2 hk
      rintro kk _ ⟨i, p3, a3, b3, k3, iI, at3, hold3, nb3, st3, o3, hiI, hi, hL1, hst3, hps3, hO3, hsp3, hk3, hF3, hkk, rfl⟩
      have hp3l := hO3.2.2
      cbv
      (try simp only [ncast] at *)
      refine ifB_intro (fun h => ?_) (fun h => ?_)
      · have hlt := h
        (try simp only [wA hA] at hlt)
        (try rw [h]); clear h
        cbv
        (try simp only [ncast] at *)
        rw [plL_step (by omega)] at hL1
        refine call_bits hC hA (hb := 1) (hr := 2) (n := 8) hx hF3 (by decide) rfl rfl fun a4 b4 p4 at4 hold4 nb4 er4 y hF4 hB4 => ?_
        rcases bits0 rfl (by omega) hB4 with ⟨h1, h2, h3, h4⟩ | ⟨h1, h2, h3, h4⟩
        · subst h3
          have h1 : 8 * xs.length < p3 + 8 := h1
          rw [if_pos h1] at hL1
          rw [hL1] at hd0
          have hW : PlR xs mo p o st 3 p4 o3 st3 3 := .inl ⟨by omega, by rw [← hDD]; exact hd0⟩
          clear hB4
          cbv
          (try simp only [ncast] at *)
          refine call_err hC (hb := 1) (hr := 2) rfl (by show 2 < 5 + 1; omega) ?_
          cbv
          (try simp only [ncast] at *)
          refine ifT (by simp only [neqA hA]; simp) fun h => ?_
          (try rw [h]); clear h
          cbv
          (try simp only [ncast] at *)
          subst hA hq
          refine Fin_of ⟨[(2, .int .i64 3)], plHA R large m k3 st3 at4 hold4 nb4 3 xs o3 wd mo⟩ ?_ ⟨a4, b4, p4, k3, at4, hold4, nb4, 3, st3, 3, o3, hF4, hW, hk3, rfl, rfl⟩
          unfold plHA
          exact Sb [0, 1, 2, 3, 4, 5]
        · subst h3
          have h1 : p3 + 8 ≤ 8 * xs.length := h1
          have h2 : y = cut (V xs) p3 8 := h2
          have h4 : p4 = p3 + 8 := h4
          rw [if_neg (by omega), ← h2, ← h4] at hL1
          have cy := cut_b (V xs) p3 (n := 8)
          have e8 : (2 : Int) ^ 8 = 256 := rfl
          rw [← h2] at cy
          clear hB4 h2
          have hwy : A.wrap .u8 y = y := by rw [wrapA hA, Go.IntKind.wrap_u8]; omega
          obtain ⟨st4, hst4⟩ : ∃ v, v = st3 + 1 := ⟨_, rfl⟩
          obtain ⟨iJ, hiJ⟩ : ∃ v, v = iI + 1 := ⟨_, rfl⟩
          have e1 : A.bin .add .i64 st3 1 = st4 := by rw [addA hA, wrap64 (by omega), hst4]
          have e2 : A.bin .add .u32 iI 1 = iJ := by rw [addA hA, Go.IntKind.wrap_u32, hiJ]; omega
          cbv
          (try simp only [ncast] at *)
          refine call_err hC (hb := 1) (hr := 2) rfl (by show 2 < 5 + 1; omega) ?_
          cbv
          (try simp only [ncast] at *)
          refine ifF (by simp only [neqA hA]; simp) fun h => ?_
          (try rw [h]); clear h
          cbv
          (try simp only [ncast] at *)
          simp only [hwy]
          refine call_lit hC hA (hb := 3) (hr := 5) hk3 (by have := hO3.len hB; omega) hw (by decide) rfl rfl fun e3 k5 ys hLi hk5 => ?_
          cbv
          (try simp only [ncast] at *)
          rcases hLi with ⟨g1, g2, g3⟩ | ⟨g1, g2, g3⟩
          · rw [if_pos g1] at hL1
            rw [hL1] at hd0
            subst g2
            refine ifT (by simp only [neqA hA]; simp) fun h => ?_
            (try rw [h]); clear h
            cbv
            (try simp only [ncast] at *)
            have hW : PlR xs mo p o st 9 p4 ys st3 0 := .inl ⟨by omega, by rw [← hDD]; exact hd0⟩
            subst hA hq
            refine Fin_of ⟨[(2, .int .i64 9)], plHA R large m k5 st3 at4 hold4 nb4 0 xs ys wd mo⟩ ?_ ⟨a4, b4, p4, k5, at4, hold4, nb4, 0, st3, 9, ys, hF4, hW, hk5, rfl, rfl⟩
            unfold plHA
            exact Sb [0, 1, 2, 3, 4, 6]
          · rw [if_neg g1, ← g3] at hL1
            subst g2
            refine ifF (by simp only [neqA hA]; simp) fun h => ?_
            (try rw [h]); clear h
            cbv
            (try simp only [ncast] at *)
            simp only [e1, e2]
            have hyl2 : ys.length = o3.length + 1 := by rw [g3]; simp
            have hO4 : OB xs mo p4 ys := by
              obtain ⟨o1, o2, o3⟩ := hO3
              exact ⟨by omega, by omega, by omega⟩
            subst hag
            refine ⟨nN - (i + 1), ⟨[(0, .ptr 0 0), (40, .int .u32 z1), (41, .int .u32 iJ)], plHA A large m k5 st4 at4 hold4 nb4 0 xs ys wd mo⟩, by omega, ?_, i + 1, p4, a4, b4, k5, iJ, at4, hold4, nb4, st4, ys, by omega, by omega, hL1, by omega, by omega, hO4, by omega, hk5, hF4, rfl, rfl⟩
            subst hA
            unfold plHA
            exact Sb [0, 1, 2, 3, 4, 6]
      · have hge := h
        (try simp only [wA hA] at hge)
        (try rw [h]); clear h
        cbv
        (try simp only [ncast] at *)
        have hin : i = nN := by omega
        have hL2 : L0 = .ok (p3, o3) := by rw [hL1, hin, Nat.sub_self]; rfl
        rw [hL2] at hd0
        dsimp only at hd0
        have hW : PlR xs mo p o st 0 p3 o3 st3 0 := .inr ⟨rfl, rfl, hO3, by omega, by omega, hsp3, z1, by rw [← hDD]; exact hd0, by omega⟩
        subst hA hq
        refine Fin_of ⟨[(2, .int .i64 0)], plHA R large m k3 st3 at3 hold3 nb3 0 xs o3 wd mo⟩ ?_ ⟨a3, b3, p3, k3, at3, hold3, nb3, 0, st3, 0, o3, hF3, hW, hk3, rfl, rfl⟩
        unfold plHA
        exact Sb [0, 1, 2, 3, 4, 5]
/-- All chunks, behind. -/
def plHB (A : Ar) (large : Bool) (m k : Nat) (st at_ hold nb er : Int) (xs o : List Int) (wd mo : Int) : List Ck :=
  [.box 63 [.ptr 1 0, .ptr 3 0, .bool large, .int .i64 st, .ptr 5 0, .ptr 6 0], .box 101 [.lst 2 m, .int .i64 at_, .int .u64 hold, .int .i64 nb, .int .i64 er, .bool true], .lst 5 1 (A.ints .u8 xs), .box 98 [.int .i64 wd, .int .i64 mo, .bool false, .lst 7 k], .gone, .vw [], .vw [], .lst 5 1 (A.ints .u8 o)]
theorem s_plainB (xs : List Int) (m p a b k : Nat) (at_ hold nb wd mo st : Int) (large : Bool) (o : List Int) (hx : RX xs m) (hF : RF xs p a b at_ hold nb) (hk : k = o.length) (hw : 0 < wd) (hB : BB xs mo) (hO : OB xs mo p o) (hst : 0 ≤ st ∧ st ≤ p) :
    Spec prog 50 [.ptr 0 0] [.box 63 [.ptr 1 0, .ptr 3 0, .bool large, .int .i64 st, .ptr 5 0, .ptr 6 0], .box 101 [.lst 2 m, .int .i64 at_, .int .u64 hold, .int .i64 nb, .int .i64 0, .bool true], .lst 5 1 (R.ints .u8 xs), .box 98 [.int .i64 wd, .int .i64 mo, .bool false, .lst 4 k], .lst 5 1 (R.ints .u8 o), .vw [], .vw []]
    (fun r H => ∃ (a b p' k' : Nat) (at_ hold nb er' st' e : Int) (o' : List Int), RF xs p' a b at_ hold nb ∧ PlR xs mo p o st e p' o' st' er' ∧ k' = o'.length ∧ r = .int .i64 e ∧ H = plHB R large m k' st' at_ hold nb er' xs o' wd mo) := by
  refine Spec_of_kF (D := fun i => if i = 2 then (9, [1,2]) else (0, [])) (ks := [0, 2, 3, 4, 5, 6, 7, 40, 41]) tok mixed (fn := f50) rfl rfl rfl (by kernel_rfl) (N := 74) rfl (rs := [.tmp 2]) rfl (Nat.le_of_ble_eq_true rfl) fun A C Kp E ag L q hA hC hK hE hag hL hq => ?_
  rw [← hA]
  obtain ⟨D, hDD⟩ : ∃ D, D = plM xs mo p o := ⟨_, rfl⟩
  have hd0 := hDD
  unfold plM at hd0
  have hpl := hO.2.2
  have hxl : xs.length ≤ 1000000000000 := hx.2.2
  cbv
  (try simp only [ncast] at *)
  refine call_align1 hC hA (hb := 1) (hr := 2) hx hF (by decide) rfl rfl fun p0 a0 b0 at0 hold0 nb0 hF0 hp0 => ?_
  have hp0 : p0 = up8i p := by rw [hp0, if_pos rfl]; rfl
  have hpu : p ≤ p0 ∧ p0 ≤ 8 * xs.length := by rw [hp0]; unfold up8i; omega
  rw [← hp0] at hd0
  clear hp0 hF
  cbv
  (try simp only [ncast] at *)
  refine call_bits hC hA (hb := 1) (hr := 2) (n := 16) hx hF0 (by decide) rfl rfl fun a1 b1 p1 at1 hold1 nb1 er1 z1 hF1 hB1 => ?_
  have h1 : (8 * xs.length < p0 + 16 ∧ er1 = 3) ∨ (p0 + 16 ≤ 8 * xs.length ∧ z1 = cut (V xs) p0 16 ∧ er1 = 0 ∧ p1 = p0 + 16) := by
    rcases bits0 rfl (by omega) hB1 with h | h
    · exact .inl ⟨h.1, h.2.2.1⟩
    · exact .inr h
  clear hB1
  cbv
  (try simp only [ncast] at *)
  refine call_bits hC hA (hb := 1) (hr := 2) (n := 16) hx hF1 (by decide) rfl rfl fun a2 b2 p2 at2 hold2 nb2 er2 z2 hF2 hB2 => ?_
  have hall : (8 * xs.length < p0 + 32 ∧ er2 = 3) ∨ (p0 + 32 ≤ 8 * xs.length ∧ z1 = cut (V xs) p0 16 ∧ z2 = cut (V xs) (p0 + 16) 16 ∧ er2 = 0 ∧ p2 = p0 + 32) := by
    rcases h1 with ⟨g1, g2⟩ | ⟨g1, g2, g3, g4⟩
    · have := bits1 (by omega) hB2
      exact .inl ⟨by omega, by omega⟩
    · rcases bits0 g3 (by omega) hB2 with ⟨k1, _, k3, _⟩ | ⟨k1, k2, k3, k4⟩
      · have k1 : 8 * xs.length < p1 + 16 := k1
        exact .inl ⟨by omega, k3⟩
      · have k1 : p1 + 16 ≤ 8 * xs.length := k1
        have k4 : p2 = p1 + 16 := k4
        exact .inr ⟨by omega, g2, by rw [k2, g4]; rfl, k3, by omega⟩
  clear hB2 h1 hF0 hF1
  rcases hall with ⟨hs, rfl⟩ | ⟨hs, hz1, hz2, rfl, hp2⟩
  · rw [if_pos hs] at hd0
    have hW : PlR xs mo p o st 3 p2 o st 3 := .inl ⟨by omega, by rw [← hDD]; exact hd0⟩
    cbv
    (try simp only [ncast] at *)
    refine call_err hC (hb := 1) (hr := 2) rfl (by show 2 < 7; omega) ?_
    cbv
    (try simp only [ncast] at *)
    refine ifT (by simp only [neqA hA]; simp) fun h => ?_
    (try rw [h]); clear h
    cbv
    (try simp only [ncast] at *)
    refine call_err hC (hb := 1) (hr := 2) rfl (by show 2 < 7; omega) ?_
    cbv
    (try simp only [ncast] at *)
    subst hA hq
    refine Fin_of ⟨[(2, .int .i64 3)], plHB R large m k st at2 hold2 nb2 3 xs o wd mo⟩ ?_ ⟨a2, b2, p2, k, at2, hold2, nb2, 3, st, 3, o, hF2, hW, hk, rfl, rfl⟩
    unfold plHB
    exact Sb [0, 1, 2, 3, 4, 5, 6, 4]
  · rw [if_neg (by omega), ← hz1, ← hz2, ← hp2] at hd0
    have c1 := cut_b (V xs) p0 (n := 16)
    have c2 := cut_b (V xs) (p0 + 16) (n := 16)
    have e16 : (2 : Int) ^ 16 = 65536 := rfl
    rw [← hz1] at c1
    rw [← hz2] at c2
    clear hz1 hz2
    have hxo := bxor_iff (x := z1) (y := z2) (by omega) (by omega)
    obtain ⟨v, hv⟩ : ∃ v, v = A.bin .xor .u32 z1 z2 := ⟨_, rfl⟩
    have hxo : v = 65535 ↔ z1 + z2 = 65535 := by rw [hv, xorA hA]; exact hxo
    cbv
    (try simp only [ncast] at *)
    refine call_err hC (hb := 1) (hr := 2) rfl (by show 2 < 7; omega) ?_
    cbv
    (try simp only [ncast] at *)
    refine ifF (by simp only [neqA hA]; simp) fun h => ?_
    (try rw [h]); clear h
    cbv
    (try simp only [ncast] at *)
    simp only [← hv]
    refine ifB_intro (fun h => ?_) (fun h => ?_)
    · have h65 := h
      (try simp only [wA hA] at h65)
      (try rw [h]); clear h
      cbv
      (try simp only [ncast] at *)
      rw [if_pos (fun h => h65 (hxo.2 h))] at hd0
      have hW : PlR xs mo p o st 4 p2 o st 0 := .inl ⟨by omega, by rw [← hDD]; exact hd0⟩
      subst hA hq
      refine Fin_of ⟨[(2, .int .i64 4)], plHB R large m k st at2 hold2 nb2 0 xs o wd mo⟩ ?_ ⟨a2, b2, p2, k, at2, hold2, nb2, 0, st, 4, o, hF2, hW, hk, rfl, rfl⟩
      unfold plHB
      exact Sb [0, 1, 2, 3, 4, 5, 6, 4]
    · have h65 := h
      (try simp only [wA hA] at h65)
      (try rw [h]); clear h
      cbv
      (try simp only [ncast] at *)
      rw [if_neg (not_not_intro (hxo.1 h65))] at hd0
      clear hxo hv
      obtain ⟨nN, hnN⟩ : ∃ k : Nat, k = z1.toNat := ⟨_, rfl⟩
      rw [← hnN] at hd0
      obtain ⟨L0, hL0⟩ : ∃ L, L = plL xs mo nN p2 o := ⟨_, rfl⟩
      rw [← hL0] at hd0
      obtain ⟨st0, hst0⟩ : ∃ v, v = st := ⟨_, rfl⟩
      obtain ⟨ps, hps⟩ : ∃ v, v = p := ⟨_, rfl⟩
      have hO2 : OB xs mo p2 o := by
        obtain ⟨o1, o2, o3⟩ := hO
        exact ⟨o1, by omega, by omega⟩
      rw [hL]
      refine ⟨fun kk s => ∃ (i p a b k : Nat) (iI at_ hold nb st : Int) (o : List Int), iI = i ∧ i ≤ nN ∧ L0 = plL xs mo (nN - i) p o ∧ st = st0 + i ∧ ps + 1 ≤ p ∧ OB xs mo p o ∧ st ≤ p ∧ k = o.length ∧ RF xs p a b at_ hold nb ∧ kk = nN - i ∧
          s = ⟨[(0, .ptr 0 0), (40, .int .u32 z1), (41, .int .u32 iI)], plHB A large m k st at_ hold nb 0 xs o wd mo⟩,
        ⟨_, ⟨[(0, .ptr 0 0), (40, .int .u32 z1), (41, .int .u32 0)], plHB A large m k st at2 hold2 nb2 0 xs o wd mo⟩, ?_, 0, p2, a2, b2, k, 0, at2, hold2, nb2, st, o, rfl, by omega, hL0, by omega, by omega, hO2, by omega, hk, hF2, rfl, rfl⟩, ?_⟩
      · subst hA
        unfold plHB
        exact Sb [0, 1, 2, 3, 4, 5, 6, 4]
      clear hF2 hO hO2 hk
      rintro kk _ ⟨i, p3, a3, b3, k3, iI, at3, hold3, nb3, st3, o3, hiI, hi, hL1, hst3, hps3, hO3, hsp3, hk3, hF3, hkk, rfl⟩
      have hp3l := hO3.2.2
      cbv
      (try simp only [ncast] at *)
      refine ifB_intro (fun h => ?_) (fun h => ?_)
      · have hlt := h
        (try simp only [wA hA] at hlt)
        (try rw [h]); clear h
        cbv
        (try simp only [ncast] at *)
        rw [plL_step (by omega)] at hL1
        refine call_bits hC hA (hb := 1) (hr := 2) (n := 8) hx hF3 (by decide) rfl rfl fun a4 b4 p4 at4 hold4 nb4 er4 y hF4 hB4 => ?_
        rcases bits0 rfl (by omega) hB4 with ⟨h1, h2, h3, h4⟩ | ⟨h1, h2, h3, h4⟩
        · subst h3
          have h1 : 8 * xs.length < p3 + 8 := h1
          rw [if_pos h1] at hL1
          rw [hL1] at hd0
          have hW : PlR xs mo p o st 3 p4 o3 st3 3 := .inl ⟨by omega, by rw [← hDD]; exact hd0⟩
          clear hB4
          cbv
          (try simp only [ncast] at *)
          refine call_err hC (hb := 1) (hr := 2) rfl (by show 2 < 7 + 1; omega) ?_
          cbv
          (try simp only [ncast] at *)
          refine ifT (by simp only [neqA hA]; simp) fun h => ?_
          (try rw [h]); clear h
          cbv
          (try simp only [ncast] at *)
          subst hA hq
          refine Fin_of ⟨[(2, .int .i64 3)], plHB R large m k3 st3 at4 hold4 nb4 3 xs o3 wd mo⟩ ?_ ⟨a4, b4, p4, k3, at4, hold4, nb4, 3, st3, 3, o3, hF4, hW, hk3, rfl, rfl⟩
          unfold plHB
          exact Sb [0, 1, 2, 3, 4, 5, 6, 7]
        · subst h3
          have h1 : p3 + 8 ≤ 8 * xs.length := h1
          have h2 : y = cut (V xs) p3 8 := h2
          have h4 : p4 = p3 + 8 := h4
          rw [if_neg (by omega), ← h2, ← h4] at hL1
          have cy := cut_b (V xs) p3 (n := 8)
          have e8 : (2 : Int) ^ 8 = 256 := rfl
          rw [← h2] at cy
          clear hB4 h2
          have hwy : A.wrap .u8 y = y := by rw [wrapA hA, Go.IntKind.wrap_u8]; omega
          obtain ⟨st4, hst4⟩ : ∃ v, v = st3 + 1 := ⟨_, rfl⟩
          obtain ⟨iJ, hiJ⟩ : ∃ v, v = iI + 1 := ⟨_, rfl⟩
          have e1 : A.bin .add .i64 st3 1 = st4 := by rw [addA hA, wrap64 (by omega), hst4]
          have e2 : A.bin .add .u32 iI 1 = iJ := by rw [addA hA, Go.IntKind.wrap_u32, hiJ]; omega
          cbv
          (try simp only [ncast] at *)
          refine call_err hC (hb := 1) (hr := 2) rfl (by show 2 < 7 + 1; omega) ?_
          cbv
          (try simp only [ncast] at *)
          refine ifF (by simp only [neqA hA]; simp) fun h => ?_
          (try rw [h]); clear h
          cbv
          (try simp only [ncast] at *)
          simp only [hwy]
          refine call_lit hC hA (hb := 3) (hr := 7) hk3 (by have := hO3.len hB; omega) hw (by decide) rfl rfl fun e3 k5 ys hLi hk5 => ?_
          cbv
          (try simp only [ncast] at *)
          rcases hLi with ⟨g1, g2, g3⟩ | ⟨g1, g2, g3⟩
          · rw [if_pos g1] at hL1
            rw [hL1] at hd0
            subst g2
            refine ifT (by simp only [neqA hA]; simp) fun h => ?_
            (try rw [h]); clear h
            cbv
            (try simp only [ncast] at *)
            have hW : PlR xs mo p o st 9 p4 ys st3 0 := .inl ⟨by omega, by rw [← hDD]; exact hd0⟩
            subst hA hq
            refine Fin_of ⟨[(2, .int .i64 9)], plHB R large m k5 st3 at4 hold4 nb4 0 xs ys wd mo⟩ ?_ ⟨a4, b4, p4, k5, at4, hold4, nb4, 0, st3, 9, ys, hF4, hW, hk5, rfl, rfl⟩
            unfold plHB
            exact Sb [0, 1, 2, 3, 4, 5, 6, 8]
          · rw [if_neg g1, ← g3] at hL1
            subst g2
            refine ifF (by simp only [neqA hA]; simp) fun h => ?_
            (try rw [h]); clear h
            cbv
            (try simp only [ncast] at *)
            simp only [e1, e2]
            have hyl2 : ys.length = o3.length + 1 := by rw [g3]; simp
            have hO4 : OB xs mo p4 ys := by
              obtain ⟨o1, o2, o3⟩ := hO3
              exact ⟨by omega, by omega, by omega⟩
            subst hag
            refine ⟨nN - (i + 1), ⟨[(0, .ptr 0 0), (40, .int .u32 z1), (41, .int .u32 iJ)], plHB A large m k5 st4 at4 hold4 nb4 0 xs ys wd mo⟩, by omega, ?_, i + 1, p4, a4, b4, k5, iJ, at4, hold4, nb4, st4, ys, by omega, by omega, hL1, by omega, by omega, hO4, by omega, hk5, hF4, rfl, rfl⟩
            subst hA
            unfold plHB
            exact Sb [0, 1, 2, 3, 4, 5, 6, 8]
      · have hge := h
        (try simp only [wA hA] at hge)
        (try rw [h]); clear h
        cbv
        (try simp only [ncast] at *)
        have hin : i = nN := by omega
        have hL2 : L0 = .ok (p3, o3) := by rw [hL1, hin, Nat.sub_self]; rfl
        rw [hL2] at hd0
        dsimp only at hd0
        have hW : PlR xs mo p o st 0 p3 o3 st3 0 := .inr ⟨rfl, rfl, hO3, by omega, by omega, hsp3, z1, by rw [← hDD]; exact hd0, by omega⟩
        subst hA hq
        refine Fin_of ⟨[(2, .int .i64 0)], plHB R large m k3 st3 at3 hold3 nb3 0 xs o3 wd mo⟩ ?_ ⟨a3, b3, p3, k3, at3, hold3, nb3, 0, st3, 0, o3, hF3, hW, hk3, rfl, rfl⟩
        unfold plHB
        exact Sb [0, 1, 2, 3, 4, 5, 6, 7]
end Go.Sx

/- inflate: Fixed, codes: the contracts. -/
set_option maxRecDepth 100000
set_option maxHeartbeats 4000000
set_option linter.unusedVariables false
set_option linter.unusedSimpArgs false
namespace Go.Sx
open Go.Proofs.Tryd

theorem fixL_len : fixL.length = 288 := by decide
theorem fixD_len : fixD.length = 32 := by decide
theorem fixL_at : ∀ i : Fin 288, fixL.getD i.1 0 = if i.1 < 144 ∨ 280 ≤ i.1 then 8 else if i.1 < 256 then 9 else 7 := by decide
theorem fixD_at : ∀ i : Fin 32, fixD.getD i.1 0 = 5 := by decide
theorem fixL_wl : wl fixL ≤ 65536 := by decide
theorem fixD_wl : wl fixD ≤ 65536 := by decide
theorem fixL_lens : Lens fixL := by
  have hr : ∀ a ∈ fixL, 0 ≤ a ∧ a ≤ 16 := by decide
  exact ⟨⟨by rw [fixL_len]; omega, hr⟩, by rw [wg_wl _ hr]; exact fixL_wl⟩
theorem fixD_lens : Lens fixD := by
  have hr : ∀ a ∈ fixD, 0 ≤ a ∧ a ≤ 16 := by decide
  exact ⟨⟨by rw [fixD_len]; omega, hr⟩, by rw [wg_wl _ hr]; exact fixD_wl⟩
/-- A row that is filled from its beginning on. -/
def flS (l : List Int) (i : Nat) : List Int := l.take i ++ List.replicate (l.length - i) 0
theorem flS_len (l : List Int) {i : Nat} (h : i ≤ l.length) : (flS l i).length = l.length := by unfold flS; simp; omega
theorem flS_end (l : List Int) : flS l l.length = l := by unfold flS; simp
theorem flS_set (l : List Int) {i : Nat} (h : i < l.length) : (flS l i).set i (l.getD i 0) = flS l (i + 1) := by
  have e : l.take (i + 1) = l.take i ++ [l.getD i 0] := by rw [List.take_add_one]; simp [List.getD, h]
  unfold flS
  rw [List.set_append_right _ _ (by simp; omega), List.length_take, Nat.min_eq_left (by omega), Nat.sub_self, show l.length - i = (l.length - (i + 1)) + 1 by omega, List.replicate_succ, List.set_cons_zero, e, List.append_assoc]
  rfl
theorem s_fixed : Spec prog 16 [] [] (fun r H => r = .tup [.lst 0 288, .lst 1 32] ∧ H = [.lst 3 1 (R.ints .i64 fixL), .lst 3 1 (R.ints .i64 fixD)]) := by
  refine Spec_of_kF (D := fun i => if i = 1 then (4, [1000001]) else (0, [])) (ks := [0, 1, 2, 3, 4, 5, 9, 10, 34, 35]) tok mixed (fn := f16) rfl rfl rfl (by kernel_rfl) (N := 44) rfl (rs := [.tmp 0, .tmp 1]) rfl (Nat.le_of_ble_eq_true rfl) fun A C Kp E ag L q hA hC hK hE hag hL hq => ?_
  cbv
  refine ⟨⟨[[0,1,2,3],[1,0,2,3]], by kernel_rfl, fun F hF => ?_⟩⟩
  obtain ⟨zl, hzl⟩ : ∃ z : List Int, z = List.replicate 288 0 := ⟨_, rfl⟩
  obtain ⟨zd, hzd⟩ : ∃ z : List Int, z = List.replicate 32 0 := ⟨_, rfl⟩
  have h3 : F ⟨[(2, .lst 0 288), (3, .lst 1 32)], [.lst 3 1 (A.ints .i64 zl), .lst 3 1 (A.ints .i64 zd)]⟩ := by
    refine hF _ ?_
    clear hF
    cbv
    have en : A.nat 288 = 288 := by rw [natA hA]; rfl
    have en2 : A.nat 32 = 32 := by rw [natA hA]; rfl
    simp only [en]
    rw [hL]
    refine loop_keep (fun kk s => ∃ (i : Nat) (iI : Int) (t : List Int), iI = i ∧ i ≤ 288 ∧ t = flS fixL i ∧ kk = 288 - i ∧ s = ⟨[(2, .lst 0 288), (3, .lst 1 32), (9, .int .i64 288), (10, .int .i64 iI)], [.lst 3 1 (A.ints .i64 t), .lst 3 1 (A.ints .i64 zd)]⟩)
      [2, 3, 9, 10] 288 ⟨0, 0, zl, rfl, by omega, by rw [hzl]; rfl, rfl, rfl⟩ ?_
    rintro kk _ ⟨i, iI, t, hiI, hi, ht, hkk, rfl⟩
    have htl : t.length = 288 := by rw [ht, flS_len fixL (by rw [fixL_len]; exact hi), fixL_len]
    have e1 : A.bin .add .i64 iI 1 = iI + 1 := by rw [addA hA, wrap64 (by omega)]
    cbv
    (try simp only [ncast] at *)
    refine ifB_intro (fun h => ?_) (fun h => ?_)
    · have hlt := h
      (try simp only [wA hA] at hlt)
      (try rw [h]); clear h
      cbv
      (try simp only [ncast] at *)
      refine ifB_intro (fun h => ?_) (fun h => ?_)
      · have h1 := h
        (try simp only [wA hA] at h1)
        (try rw [h]); clear h
        cbv
        (try simp only [ncast] at *)
        refine wrA hA (by omega) (by omega) fun ys hys => ?_
        have hvv : fixL.getD i 0 = 8 := by
          rw [fixL_at ⟨i, by omega⟩]
          simp only
          rw [if_pos (by omega)]
        have hys : ys = flS fixL (i + 1) := by
          rw [hys, show 0 + iI.toNat = i by omega, ht, ← hvv]
          exact flS_set fixL (by rw [fixL_len]; omega)
        cbv
        (try simp only [ncast] at *)
        simp only [e1]
        subst hag
        refine ⟨288 - (i + 1), ⟨[(2, .lst 0 288), (3, .lst 1 32), (9, .int .i64 288), (10, .int .i64 (iI + 1))], [.lst 3 1 (A.ints .i64 ys), .lst 3 1 (A.ints .i64 zd)]⟩, by omega, ?_, i + 1, iI + 1, ys, by omega, by omega, hys, rfl, rfl⟩
        subst hA
        exact Sb [0, 1]
      · have h1 := h
        (try simp only [wA hA] at h1)
        (try rw [h]); clear h
        cbv
        (try simp only [ncast] at *)
        refine ifB_intro (fun h => ?_) (fun h => ?_)
        · have h2 := h
          (try simp only [wA hA] at h2)
          (try rw [h]); clear h
          cbv
          (try simp only [ncast] at *)
          refine wrA hA (by omega) (by omega) fun ys hys => ?_
          have hvv : fixL.getD i 0 = 8 := by
            rw [fixL_at ⟨i, by omega⟩]
            simp only
            rw [if_pos (by omega)]
          have hys : ys = flS fixL (i + 1) := by
            rw [hys, show 0 + iI.toNat = i by omega, ht, ← hvv]
            exact flS_set fixL (by rw [fixL_len]; omega)
          cbv
          (try simp only [ncast] at *)
          simp only [e1]
          subst hag
          refine ⟨288 - (i + 1), ⟨[(2, .lst 0 288), (3, .lst 1 32), (9, .int .i64 288), (10, .int .i64 (iI + 1))], [.lst 3 1 (A.ints .i64 ys), .lst 3 1 (A.ints .i64 zd)]⟩, by omega, ?_, i + 1, iI + 1, ys, by omega, by omega, hys, rfl, rfl⟩
          subst hA
          exact Sb [0, 1]
        · have h2 := h
          (try simp only [wA hA] at h2)
          (try rw [h]); clear h
          cbv
          (try simp only [ncast] at *)
          refine ifB_intro (fun h => ?_) (fun h => ?_)
          · have h3 := h
            (try simp only [wA hA] at h3)
            (try rw [h]); clear h
            cbv
            (try simp only [ncast] at *)
            refine wrA hA (by omega) (by omega) fun ys hys => ?_
            have hvv : fixL.getD i 0 = 9 := by
              rw [fixL_at ⟨i, by omega⟩]
              simp only
              rw [if_neg (by omega), if_pos (by omega)]
            have hys : ys = flS fixL (i + 1) := by
              rw [hys, show 0 + iI.toNat = i by omega, ht, ← hvv]
              exact flS_set fixL (by rw [fixL_len]; omega)
            cbv
            (try simp only [ncast] at *)
            simp only [e1]
            subst hag
            refine ⟨288 - (i + 1), ⟨[(2, .lst 0 288), (3, .lst 1 32), (9, .int .i64 288), (10, .int .i64 (iI + 1))], [.lst 3 1 (A.ints .i64 ys), .lst 3 1 (A.ints .i64 zd)]⟩, by omega, ?_, i + 1, iI + 1, ys, by omega, by omega, hys, rfl, rfl⟩
            subst hA
            exact Sb [0, 1]
          · have h3 := h
            (try simp only [wA hA] at h3)
            (try rw [h]); clear h
            cbv
            (try simp only [ncast] at *)
            refine wrA hA (by omega) (by omega) fun ys hys => ?_
            have hvv : fixL.getD i 0 = 7 := by
              rw [fixL_at ⟨i, by omega⟩]
              simp only
              rw [if_neg (by omega), if_neg (by omega)]
            have hys : ys = flS fixL (i + 1) := by
              rw [hys, show 0 + iI.toNat = i by omega, ht, ← hvv]
              exact flS_set fixL (by rw [fixL_len]; omega)
            cbv
            (try simp only [ncast] at *)
            simp only [e1]
            subst hag
            refine ⟨288 - (i + 1), ⟨[(2, .lst 0 288), (3, .lst 1 32), (9, .int .i64 288), (10, .int .i64 (iI + 1))], [.lst 3 1 (A.ints .i64 ys), .lst 3 1 (A.ints .i64 zd)]⟩, by omega, ?_, i + 1, iI + 1, ys, by omega, by omega, hys, rfl, rfl⟩
            subst hA
            exact Sb [0, 1]
    · have hge := h
      (try simp only [wA hA] at hge)
      (try rw [h]); clear h
      cbv
      (try simp only [ncast] at *)
      obtain ⟨fl, hfl⟩ : ∃ l, l = fixL := ⟨_, rfl⟩
      have hte : t = fl := by rw [hfl, ht, show i = fixL.length by rw [fixL_len]; omega, flS_end]
      clear hi hkk htl ht
      simp only [en2]
      refine ⟨fun kk s => ∃ (i : Nat) (iI : Int) (t : List Int), iI = i ∧ i ≤ 32 ∧ t = flS fixD i ∧ kk = 32 - i ∧ s = ⟨[(2, .lst 0 288), (3, .lst 1 32), (34, .int .i64 32), (35, .int .i64 iI)], [.lst 3 1 (A.ints .i64 fl), .lst 3 1 (A.ints .i64 t)]⟩,
        ⟨_, ⟨[(2, .lst 0 288), (3, .lst 1 32), (34, .int .i64 32), (35, .int .i64 0)], [.lst 3 1 (A.ints .i64 t), .lst 3 1 (A.ints .i64 zd)]⟩, ?_, 0, 0, zd, rfl, by omega, by rw [hzd]; rfl, rfl, by rw [hte]⟩, ?_⟩
      · subst hA
        exact Sb [0, 1]
      clear hte
      rintro kk _ ⟨i, iI, t, hiI, hi, ht, hkk, rfl⟩
      have htl : t.length = 32 := by rw [ht, flS_len fixD (by rw [fixD_len]; exact hi), fixD_len]
      have e1 : A.bin .add .i64 iI 1 = iI + 1 := by rw [addA hA, wrap64 (by omega)]
      cbv
      (try simp only [ncast] at *)
      refine ifB_intro (fun h => ?_) (fun h => ?_)
      · have hlt := h
        (try simp only [wA hA] at hlt)
        (try rw [h]); clear h
        cbv
        (try simp only [ncast] at *)
        refine wrA hA (by omega) (by omega) fun ys hys => ?_
        have hvv : fixD.getD i 0 = 5 := fixD_at ⟨i, by omega⟩
        have hys : ys = flS fixD (i + 1) := by
          rw [hys, show 0 + iI.toNat = i by omega, ht, ← hvv]
          exact flS_set fixD (by rw [fixD_len]; omega)
        cbv
        (try simp only [ncast] at *)
        simp only [e1]
        subst hag
        refine ⟨32 - (i + 1), ⟨[(2, .lst 0 288), (3, .lst 1 32), (34, .int .i64 32), (35, .int .i64 (iI + 1))], [.lst 3 1 (A.ints .i64 fl), .lst 3 1 (A.ints .i64 ys)]⟩, by omega, ?_, i + 1, iI + 1, ys, by omega, by omega, hys, rfl, rfl⟩
        subst hA
        exact Sb [0, 1]
      · have hge2 := h
        (try simp only [wA hA] at hge2)
        (try rw [h]); clear h
        cbv
        (try simp only [ncast] at *)
        have hte2 : t = fixD := by rw [ht, show i = fixD.length by rw [fixD_len]; omega, flS_end]
        rw [hte2, hfl]
        subst hA hq
        refine Fin_of ⟨[(0, .lst 0 288), (1, .lst 1 32)], [.lst 3 1 (R.ints .i64 fixL), .lst 3 1 (R.ints .i64 fixD)]⟩ ?_ ⟨rfl, rfl⟩
        exact Sb [0, 1]
  clear hF
  have hr1 : A.row 288 [.int .i64 0] = A.ints .i64 zl := by rw [hzl]; subst hA; exact row_num1
  have hr2 : A.row 32 [.int .i64 0] = A.ints .i64 zd := by rw [hzd]; subst hA; exact row_num1
  have ht : A.tn 288 = 288 := by rw [tnA hA]; rfl
  have ht2 : A.tn 32 = 32 := by rw [tnA hA]; rfl
  have hm1 : A.mks 8 288 288 := by rw [mksA hA]; omega
  have hm2 : A.mks 8 32 32 := by rw [mksA hA]; omega
  cbv
  simp only [hr1, hr2, ht, ht2, hm1, hm2, true_and]
  subst hA hag
  refine ⟨⟨0, _, by omega, ?_, h3⟩, ⟨0, _, by omega, ?_, h3⟩, trivial⟩
  · exact Sb [0, 1]
  · exact Sb [1, 0]
section
variable {A : Ar} {C : CallT} {s : St} {κ : List Nat → SV → List Ck → Prop}
theorem call_fixed (hC : C = CallX prog) (hA : A = R) (hk : κ [] (.tup [.lst (len1 s.H) 288, .lst (len1 s.H + 1) 32]) (apd s.H [.lst 3 1 (A.ints .i64 fixL), .lst 3 1 (A.ints .i64 fixD)])) : C 16 [] s κ := by
  refine cal_of hC s_fixed [] trivial trivial trivial ?_
  rintro _ _ ⟨rfl, rfl⟩
  refine ⟨_, _, s.H ++ [.lst 3 1 (A.ints .i64 fixL), .lst 3 1 (A.ints .i64 fixD)], rfl, rfl, ?_, ?_⟩
  · subst hA; rfl
  · rw [len1_eq, apd_eq] at hk
    exact hk
end
end Go.Sx

/- inflate: codes: the contract. -/
set_option maxRecDepth 100000
set_option maxHeartbeats 4000000
set_option linter.unusedVariables false
set_option linter.unusedSimpArgs false
namespace Go.Sx
open Go.Proofs.Tryd

theorem Lens.wr {l : List Int} (h : Lens l) : WrQ l 0 := .inr (.inr ⟨h.1, h.2, rfl⟩)
theorem s_codesA (la lb : Nat) (st : Int) (large : Bool) (ll dl : List Int) (hla : la = ll.length) (hlb : lb = dl.length) (hL1 : Lens ll) (hL2 : Lens dl) :
    Spec prog 52 [.ptr 0 0, .sl 3 0 la false, .sl 4 0 lb false] [.box 63 [.ptr 1 0, .ptr 2 0, .bool large, .int .i64 st, .nilP, .nilP], .vw [], .vw [], .vw (R.ints .i64 ll), .vw (R.ints .i64 dl)]
    (fun r H => ∃ (lg1 lg2 : Int) (sy1 tb1 sy2 tb2 : List Int) (dc1 dc2 : List SV) (ks1 ks2 : Nat), DecQ ll lg1 sy1 tb1 ∧ IsDC dc1 true lg1 (cvec ll) (fvec (cvec ll)) (.lst 6 ks1) tb1 ∧ ks1 = sy1.length ∧ DecQ dl lg2 sy2 tb2 ∧ IsDC dc2 true lg2 (cvec dl) (fvec (cvec dl)) (.lst 8 ks2) tb2 ∧ ks2 = sy2.length ∧ r = .int .i64 0 ∧
      H = [.box 63 [.ptr 1 0, .ptr 2 0, .bool large, .int .i64 st, .ptr 5 0, .ptr 7 0], .vw [], .vw [], .vw (R.ints .i64 ll), .vw (R.ints .i64 dl), .box 147 dc1, .lst 3 1 (R.ints .i64 sy1), .box 147 dc2, .lst 3 1 (R.ints .i64 sy2)]) := by
  refine Spec_of_kF (D := fun i => (0, [])) (ks := [0, 1, 2, 6, 7]) tok mixed (fn := f52) rfl rfl rfl (by kernel_rfl) (N := 28) rfl (rs := [.tmp 6]) rfl (Nat.le_of_ble_eq_true rfl) fun A C Kp E ag L q hA hC hK hE hag hL hq => ?_
  rw [← hA]
  cbv
  (try simp only [ncast] at *)
  refine call_cnew hC hA (hb := 3) (ln := la) (l := ll) hla (cells_vwA hA rfl hla) ⟨⟨(show 0 < 1 by omega), rfl, rfl, rfl⟩, trivial⟩ (fun e he he0 => ?_) (fun lg1 sy1 tb1 dc1 ks1 hW1 hQ1 hD1 hks1 => ?_)
  · exact absurd (WrQ_uniq he hL1.wr) he0
  · cbv
    (try simp only [ncast] at *)
    refine ifF (by simp only [neqA hA]; simp) fun h => ?_
    (try rw [h]); clear h
    cbv
    (try simp only [ncast] at *)
    refine call_cnew hC hA (hb := 4) (ln := lb) (l := dl) hlb (cells_vwA hA rfl hlb) ⟨⟨(show 0 < 1 by omega), rfl, rfl, rfl⟩, trivial⟩ (fun e he he0 => ?_) (fun lg2 sy2 tb2 dc2 ks2 hW2 hQ2 hD2 hks2 => ?_)
    · exact absurd (WrQ_uniq he hL2.wr) he0
    · cbv
      (try simp only [ncast] at *)
      subst hA hq
      refine Fin_of ⟨[(6, .int .i64 0)], [.box 63 [.ptr 1 0, .ptr 2 0, .bool large, .int .i64 st, .ptr 5 0, .ptr 7 0], .vw [], .vw [], .vw (R.ints .i64 ll), .vw (R.ints .i64 dl), .box 147 dc1, .lst 3 1 (R.ints .i64 sy1), .box 147 dc2, .lst 3 1 (R.ints .i64 sy2)]⟩ ?_ ⟨lg1, lg2, sy1, tb1, sy2, tb2, dc1, dc2, ks1, ks2, hQ1, hD1, hks1, hQ2, hD2, hks2, rfl, rfl⟩
      have dc3 : ∀ (N : Nat) (H1 : List Ck), 8 < N → H1[5]? = some (.box 147 dc1) → subC 5 N [0, 1, 2, 3, 4, 5, 6, 7, 8] H1 5 5 (.box 147 dc1) :=
        fun N H1 hN h => subC_dc hD1 (show 6 < N by omega) hD1 h
      have dc4 : ∀ (N : Nat) (H1 : List Ck), 8 < N → H1[7]? = some (.box 147 dc2) → subC 5 N [0, 1, 2, 3, 4, 5, 6, 7, 8] H1 7 7 (.box 147 dc2) :=
        fun N H1 hN h => subC_dc hD2 (show 8 < N by omega) hD2 h
      exact Sc [0, 1, 2, 3, 4, 5, 6, 7, 8] (by repeat' (first | exact dc3 _ _ (Nat.le_of_ble_eq_true rfl) rfl | exact dc4 _ _ (Nat.le_of_ble_eq_true rfl) rfl | exact trivial | exact fun _ => rfl | exact fun h => absurd h (by simp) | exact subC_ints rfl | refine And.intro ?_ ?_ | rfl | (simp [subH_nil, hLts, hLt, renCk, renC, sg, Ck.cells, R_ints_ren, R_ints_hLts]; done)))
theorem s_codesB (la lb : Nat) (st : Int) (large : Bool) (ll dl : List Int) (hla : la = ll.length) (hlb : lb = dl.length) (hL1 : Lens ll) (hL2 : Lens dl) :
    Spec prog 52 [.ptr 0 0, .sl 5 0 la false, .sl 6 0 lb false] [.box 63 [.ptr 1 0, .ptr 2 0, .bool large, .int .i64 st, .ptr 3 0, .ptr 4 0], .vw [], .vw [], .vw [], .vw [], .vw (R.ints .i64 ll), .vw (R.ints .i64 dl)]
    (fun r H => ∃ (lg1 lg2 : Int) (sy1 tb1 sy2 tb2 : List Int) (dc1 dc2 : List SV) (ks1 ks2 : Nat), DecQ ll lg1 sy1 tb1 ∧ IsDC dc1 true lg1 (cvec ll) (fvec (cvec ll)) (.lst 8 ks1) tb1 ∧ ks1 = sy1.length ∧ DecQ dl lg2 sy2 tb2 ∧ IsDC dc2 true lg2 (cvec dl) (fvec (cvec dl)) (.lst 10 ks2) tb2 ∧ ks2 = sy2.length ∧ r = .int .i64 0 ∧
      H = [.box 63 [.ptr 1 0, .ptr 2 0, .bool large, .int .i64 st, .ptr 7 0, .ptr 9 0], .vw [], .vw [], .vw [], .vw [], .vw (R.ints .i64 ll), .vw (R.ints .i64 dl), .box 147 dc1, .lst 3 1 (R.ints .i64 sy1), .box 147 dc2, .lst 3 1 (R.ints .i64 sy2)]) := by
  refine Spec_of_kF (D := fun i => (0, [])) (ks := [0, 1, 2, 6, 7]) tok mixed (fn := f52) rfl rfl rfl (by kernel_rfl) (N := 28) rfl (rs := [.tmp 6]) rfl (Nat.le_of_ble_eq_true rfl) fun A C Kp E ag L q hA hC hK hE hag hL hq => ?_
  rw [← hA]
  cbv
  (try simp only [ncast] at *)
  refine call_cnew hC hA (hb := 5) (ln := la) (l := ll) hla (cells_vwA hA rfl hla) ⟨⟨(show 0 < 1 by omega), rfl, rfl, rfl⟩, trivial⟩ (fun e he he0 => ?_) (fun lg1 sy1 tb1 dc1 ks1 hW1 hQ1 hD1 hks1 => ?_)
  · exact absurd (WrQ_uniq he hL1.wr) he0
  · cbv
    (try simp only [ncast] at *)
    refine ifF (by simp only [neqA hA]; simp) fun h => ?_
    (try rw [h]); clear h
    cbv
    (try simp only [ncast] at *)
    refine call_cnew hC hA (hb := 6) (ln := lb) (l := dl) hlb (cells_vwA hA rfl hlb) ⟨⟨(show 0 < 1 by omega), rfl, rfl, rfl⟩, trivial⟩ (fun e he he0 => ?_) (fun lg2 sy2 tb2 dc2 ks2 hW2 hQ2 hD2 hks2 => ?_)
    · exact absurd (WrQ_uniq he hL2.wr) he0
    · cbv
      (try simp only [ncast] at *)
      subst hA hq
      refine Fin_of ⟨[(6, .int .i64 0)], [.box 63 [.ptr 1 0, .ptr 2 0, .bool large, .int .i64 st, .ptr 7 0, .ptr 9 0], .vw [], .vw [], .vw [], .vw [], .vw (R.ints .i64 ll), .vw (R.ints .i64 dl), .box 147 dc1, .lst 3 1 (R.ints .i64 sy1), .box 147 dc2, .lst 3 1 (R.ints .i64 sy2)]⟩ ?_ ⟨lg1, lg2, sy1, tb1, sy2, tb2, dc1, dc2, ks1, ks2, hQ1, hD1, hks1, hQ2, hD2, hks2, rfl, rfl⟩
      have dc3 : ∀ (N : Nat) (H1 : List Ck), 10 < N → H1[7]? = some (.box 147 dc1) → subC 7 N [0, 1, 2, 3, 4, 5, 6, 7, 8, 9, 10] H1 7 7 (.box 147 dc1) :=
        fun N H1 hN h => subC_dc hD1 (show 8 < N by omega) hD1 h
      have dc4 : ∀ (N : Nat) (H1 : List Ck), 10 < N → H1[9]? = some (.box 147 dc2) → subC 7 N [0, 1, 2, 3, 4, 5, 6, 7, 8, 9, 10] H1 9 9 (.box 147 dc2) :=
        fun N H1 hN h => subC_dc hD2 (show 10 < N by omega) hD2 h
      exact Sc [0, 1, 2, 3, 4, 5, 6, 7, 8, 9, 10] (by repeat' (first | exact dc3 _ _ (Nat.le_of_ble_eq_true rfl) rfl | exact dc4 _ _ (Nat.le_of_ble_eq_true rfl) rfl | exact trivial | exact fun _ => rfl | exact fun h => absurd h (by simp) | exact subC_ints rfl | refine And.intro ?_ ?_ | rfl | (simp [subH_nil, hLts, hLt, renCk, renC, sg, Ck.cells, R_ints_ren, R_ints_hLts]; done)))
end Go.Sx
