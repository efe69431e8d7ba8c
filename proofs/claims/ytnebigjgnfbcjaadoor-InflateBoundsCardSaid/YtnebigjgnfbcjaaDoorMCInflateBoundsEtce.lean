/- Contracts of functions, and what is plain about them: texts put together. -/
import Derived.Test.YtnebigjgnfbcjaaDoorMCInflateBoundsEtcd
/- hist: contracts. -/
set_option maxRecDepth 100000
set_option maxHeartbeats 4000000
set_option linter.unusedVariables false
set_option linter.unusedSimpArgs false
namespace Go.Sx
open Go.Proofs.Tryd

theorem s_ok (wd mo n : Int) (k : Nat) (nn : Bool) : Spec prog 54 [.ptr 0 0] [.vw [.int .i64 wd, .int .i64 mo, .bool nn, .lst 1 k], .vw []]
    (fun r H => r = .bool (decide (0 < wd)) ∧ H = [.vw [.int .i64 wd, .int .i64 mo, .bool nn, .lst 1 k], .vw []]) := by
  refine Spec_of_xX (D := fun _ => (0, [])) (ks := [0, 2]) tok mixed (fn := f54) rfl rfl rfl (by kernel_rfl) (N := 12) rfl (rs := [.tmp 2]) rfl (by show 1 ≤ 12; omega) fun A C ag L q hA hC hag hL hq => ?_
  cbv
  subst hA hq
  exact ⟨rfl, rfl⟩

/-- What Lit answers, what is told behind it. -/
def LitQ (mo c : Int) (xs : List Int) (e : Int) (ys : List Int) : Prop := ((xs.length : Int) = mo ∧ e = 9 ∧ ys = xs) ∨ ((xs.length : Int) ≠ mo ∧ e = 0 ∧ ys = xs ++ [c])

theorem s_lit (wd mo c : Int) (n : Nat) (nn : Bool) (xs : List Int) (hn : n = xs.length) (hl : xs.length ≤ 100000000000) (hw : 0 < wd) : Spec prog 44 [.ptr 0 0, .int .u8 c] [.box 98 [.int .i64 wd, .int .i64 mo, .bool nn, .lst 1 n], .lst 5 1 (R.ints .u8 xs)]
    (fun r H => ∃ (e : Int) (k : Nat) (ys : List Int), LitQ mo c xs e ys ∧ k = ys.length ∧ r = .int .i64 e ∧ H = [.box 98 [.int .i64 wd, .int .i64 mo, .bool nn, .lst 2 k], .gone, .lst 5 1 (R.ints .u8 ys)]) := by
  refine Spec_of_xF (D := fun i => if i = 3 then (9, []) else (0, [])) (ks := [0, 1, 4]) tok mixed (fn := f44) rfl rfl rfl (by kernel_rfl) (N := 30) rfl (rs := [.tmp 4]) rfl (by show 2 ≤ 30; omega) fun A C ag L fi hA hC hag hL hfi => ?_
  rw [← hA]
  cbv
  refine cal_vw hC (s_ok wd mo 0 n nn) [(0, 0, false), (1, 0, false)] rfl (matchV2 ⟨trivial, trivial, trivial, (show 1 < 2 by omega), trivial⟩ ⟨trivial, trivial, trivial, rfl, trivial⟩ rfl rfl (by simp)) ⟨⟨(show 0 < 2 by omega), trivial, rfl⟩, trivial⟩ rfl ?_
  rw [decide_eq_true hw]
  cbv
  refine ifB_intro (fun h => ?_) (fun h => ?_)
  · subst hA; exact absurd h (by decide)
  cbv
  refine ifB_intro (fun h' => ?_) (fun h' => ?_)
  · cbv
    subst hA hfi
    have h' : (n : Int) = mo := by
      have h' : ((n : Int) == mo) = true := h'
      simpa using h'
    refine Fin_of ⟨[(4, .int .i64 9)], [.box 98 [.int .i64 wd, .int .i64 mo, .bool nn, .lst 2 n], .gone, .lst 5 1 (R.ints .u8 xs)]⟩
      (Sub_of [0, 1, 1] (by simp [sigOk, ndG]) (by simp) ⟨fun _ => rfl, (by simp), ⟨⟨trivial, trivial, trivial, (show 2 < 3 by omega), trivial⟩, rfl⟩, fun _ => rfl, (by simp), trivial, fun h => absurd h (by simp), (by simp), subC_ints rfl, trivial⟩ ⟨.inr ⟨trivial, rfl⟩, trivial⟩) ?_
    exact ⟨9, n, xs, .inl ⟨by omega, rfl, rfl⟩, hn, rfl, rfl⟩
  · cbv
    have ha := apdA1 hA .u8 xs c
    refine ⟨?_, ?_, ?_⟩
    · subst hA
      show (R.ints .u8 xs).length = n * 1
      rw [R_ints_length]; omega
    · subst hA
      show (n + 1) * 1 ≤ room
      unfold room; omega
    subst hA hfi
    have h' : (n : Int) ≠ mo := by
      have h' : ((n : Int) == mo) = false := h'
      simpa using h'
    refine Fin_of ⟨[(4, .int .i64 0)], [.box 98 [.int .i64 wd, .int .i64 mo, .bool nn, .lst 2 (n + 1)], .gone, .lst 5 1 (R.ints .u8 (xs ++ [c]))]⟩
      (Sub_of [0, 1, 3] (by simp [sigOk, ndG]) (by simp) ⟨fun _ => rfl, (by simp), ⟨⟨trivial, trivial, trivial, (show 2 < 3 by omega), trivial⟩, rfl⟩, fun _ => rfl, (by simp), trivial, fun h => absurd h (by simp), (by simp), subC_ints (congrArg (fun l => some (Ck.lst 5 1 l)) ha), trivial⟩ ⟨.inr ⟨trivial, rfl⟩, trivial⟩) ?_
    exact ⟨0, n + 1, xs ++ [c], .inr ⟨by omega, rfl, rfl⟩, by simp [hn], rfl, rfl⟩
end Go.Sx

/- hist: the contract of Copy. -/
set_option maxRecDepth 100000
set_option maxHeartbeats 4000000
set_option linter.unusedVariables false
set_option linter.unusedSimpArgs false
namespace Go.Sx
open Go.Proofs.Tryd

/-- Byte by byte. -/
def cp (xs : List Int) (d : Nat) : Nat → List Int
  | 0 => xs
  | n + 1 => cp (xs ++ [if d ≤ xs.length then xs.getD (xs.length - d) 0 else 0]) d n

theorem cp_len (d : Nat) : ∀ (n : Nat) (xs : List Int), (cp xs d n).length = xs.length + n
  | 0, xs => rfl
  | n + 1, xs => by rw [cp, cp_len d n]; simp; omega

/-- A piece at once: as many bytes as stand there. -/
theorem cp_piece (d : Nat) (hd : 0 < d) : ∀ (k r : Nat) (xs : List Int), k ≤ d → d ≤ xs.length → cp xs d (k + r) = cp (xs ++ (xs.drop (xs.length - d)).take k) d r := by
  intro k
  induction k with
  | zero => intro r xs _ _; simp
  | succ k ih =>
    intro r xs hk hx
    rw [show k + 1 + r = k + (r + 1) by omega, ih (r + 1) xs (by omega) hx, cp]
    have hl : (xs.drop (xs.length - d)).length = d := by simp; omega
    have hlt : ((xs.drop (xs.length - d)).take k).length = k := by simp; omega
    have hlen : (xs ++ (xs.drop (xs.length - d)).take k).length = xs.length + k := by rw [List.length_append, hlt]
    rw [hlen, if_pos (by omega)]
    have e : (xs ++ (xs.drop (xs.length - d)).take k).getD (xs.length + k - d) 0 = (xs.drop (xs.length - d)).getD k 0 := by
      simp only [List.getD]
      rw [List.getElem?_append_left (by omega), List.getElem?_drop]
      rw [show xs.length + k - d = xs.length - d + k by omega]
    have t : (xs.drop (xs.length - d)).take (k + 1) = (xs.drop (xs.length - d)).take k ++ [(xs.drop (xs.length - d)).getD k 0] := by
      rw [List.take_add_one]
      simp [List.getD, show k < (xs.drop (xs.length - d)).length by omega]
      rw [List.getElem?_eq_getElem (by omega)]
      simp
    rw [e, t, List.append_assoc]

def CpQ (wd mo : Int) (nn : Bool) (xs : List Int) (dist n : Int) (e : Int) (ys : List Int) : Prop :=
  ((dist < 1 ∨ n < 0) ∧ e = 2 ∧ ys = xs) ∨
  (1 ≤ dist ∧ 0 ≤ n ∧ (wd < dist ∨ ((xs.length : Int) < dist ∧ nn = false)) ∧ e = 8 ∧ ys = xs) ∨
  (1 ≤ dist ∧ 0 ≤ n ∧ dist ≤ wd ∧ (dist ≤ (xs.length : Int) ∨ nn = true) ∧ mo - xs.length < n ∧ e = 9 ∧ ys = xs) ∨
  (1 ≤ dist ∧ 0 ≤ n ∧ dist ≤ wd ∧ (dist ≤ (xs.length : Int) ∨ nn = true) ∧ n ≤ mo - xs.length ∧ e = 0 ∧ ys = cp xs dist.toNat n.toNat)

def DQ (nn : Bool) (xs : List Int) (dist : Int) : Prop := dist ≤ (xs.length : Int) ∨ nn = true
def MQ (mo n : Int) (xs : List Int) : Prop := 0 ≤ mo ∧ mo ≤ 9223372036854775807 ∧ xs.length ≤ 100000000000 ∧ (n ≤ mo - xs.length → (xs.length : Int) + n ≤ 100000000000)
/-- On the way: what is left to be told. -/
def WQ (xs zs : List Int) (dist n n' : Int) (k : Nat) : Prop := k = zs.length ∧ 0 ≤ n' ∧ cp zs dist.toNat n'.toNat = cp xs dist.toNat n.toNat ∧ (zs.length : Int) + n' ≤ 100000000000

def W2 (dist n' : Int) (k : Nat) : Prop := n' ≤ 0 ∨ dist ≤ (k : Int)

def PQ (A : Ar) (zs P : List Int) (k' d r c : Nat) (dist n' : Int) : Prop :=
  dist = d ∧ n'.toNat - min n'.toNat d = r ∧ n' = (c : Int) + r ∧ P = (zs.drop (zs.length - d)).take c ∧ c ≤ d ∧ 0 < c ∧
    A.cnt (A.bin .add .i64 (A.bin .sub .i64 (A.nat k') dist) (A.mn n' dist)) (A.bin .sub .i64 (A.nat k') dist) = c ∧ A.bin .sub .i64 n' (A.mn n' dist) = (r : Int)

theorem s_copy (wd mo dist n : Int) (k : Nat) (nn : Bool) (xs : List Int) (hk : k = xs.length) (hw : 0 < wd) (hM : MQ mo n xs) : Spec prog 45 [.ptr 0 0, .int .i64 dist, .int .i64 n] [.box 98 [.int .i64 wd, .int .i64 mo, .bool nn, .lst 1 k], .lst 5 1 (R.ints .u8 xs)]
    (fun r H => ∃ (e : Int) (k : Nat) (ys : List Int), CpQ wd mo nn xs dist n e ys ∧ k = ys.length ∧ r = .int .i64 e ∧ H = [.box 98 [.int .i64 wd, .int .i64 mo, .bool nn, .lst 2 k], .gone, .lst 5 1 (R.ints .u8 ys)]) := by
  refine Spec_of_xF (D := fun i => if i = 7 then (11, []) else if i = 15 then (15, [2]) else (0, [])) (ks := [0, 1, 2, 6, 7, 8]) tok mixed (fn := f45) rfl rfl rfl (by kernel_rfl) (N := 110) rfl (rs := [.tmp 6]) rfl (by show 3 ≤ 110; omega) fun A C ag L fi hA hC hag hL hfi => ?_
  have err : ∀ (t : List (Nat × SV)) (e : Int), look t 6 = .int .i64 e → CpQ wd mo nn xs dist n e xs → fi ⟨t, [.box 98 [.int .i64 wd, .int .i64 mo, .bool nn, .lst 1 k], .lst 5 1 (A.ints .u8 xs)]⟩ := by
    intro t e he hq
    subst hA hfi
    refine Fin_of ⟨[(6, .int .i64 e)], [.box 98 [.int .i64 wd, .int .i64 mo, .bool nn, .lst 2 k], .gone, .lst 5 1 (R.ints .u8 xs)]⟩
      (Sub_of [0, 1, 1] (by simp [sigOk, ndG]) (by simp) ⟨fun _ => rfl, (by simp), ⟨⟨trivial, trivial, trivial, (show 2 < 3 by omega), trivial⟩, rfl⟩, fun _ => rfl, (by simp), trivial, fun h => absurd h (by simp), (by simp), subC_ints rfl, trivial⟩ ⟨.inr ⟨trivial, he⟩, trivial⟩) ?_
    exact ⟨e, k, xs, hq, hk, rfl, rfl⟩
  rw [← hA]
  cbv
  refine cal_vw hC (s_ok wd mo 0 k nn) [(0, 0, false), (1, 0, false)] rfl (matchV2 ⟨trivial, trivial, trivial, (show 1 < 2 by omega), trivial⟩ ⟨trivial, trivial, trivial, rfl, trivial⟩ rfl rfl (by simp)) ⟨⟨(show 0 < 2 by omega), trivial, rfl⟩, trivial⟩ rfl ?_
  rw [decide_eq_true hw]
  cbv
  refine ifB_intro (fun h => ?_) (fun h => ?_)
  · subst hA; exact absurd h (by decide)
  clear h
  cbv
  refine ifB_intro (fun h => ?_) (fun h => ?_)
  · rw [h]
    cbv
    exact err _ _ rfl (.inl ⟨.inl (by subst hA; exact of_decide_eq_true h), rfl, rfl⟩)
  have h1 : 1 ≤ dist := by subst hA; have h : ¬ dist < 1 := of_decide_eq_false h; omega
  rw [h]
  clear h
  cbv
  refine ifB_intro (fun h => ?_) (fun h => ?_)
  · cbv
    exact err _ _ rfl (.inl ⟨.inr (by subst hA; exact of_decide_eq_true h), rfl, rfl⟩)
  have h0 : 0 ≤ n := by subst hA; have h : ¬ n < 0 := of_decide_eq_false h; omega
  clear h
  cbv
  refine ifB_intro (fun h => ?_) (fun h => ?_)
  · rw [h]
    cbv
    exact err _ _ rfl (.inr (.inl ⟨h1, h0, .inl (by subst hA; exact of_decide_eq_true h), rfl, rfl⟩))
  have h2 : dist ≤ wd := by subst hA; have h : ¬ wd < dist := of_decide_eq_false h; omega
  rw [h]
  clear h
  cbv
  refine ifB_intro (fun h => ?_) (fun h => ?_)
  rw [h]
  cbv
  refine ifB_intro (fun h' => ?_) (fun h' => ?_)
  · cbv
    refine err _ _ rfl (.inr (.inl ⟨h1, h0, .inr ?_, rfl, rfl⟩))
    subst hA
    have h : (k : Int) < dist := of_decide_eq_true h
    have h' : (!nn) = true := h'
    exact ⟨by omega, by simpa using h'⟩
  have hD : DQ nn xs dist := by
    subst hA
    have h' : (!nn) = false := h'
    exact .inr (by simpa using h')
  clear h h'
  rotate_left
  rw [h]
  have hD : DQ nn xs dist := by
    subst hA
    have h : ¬ (k : Int) < dist := of_decide_eq_false h
    exact .inl (by omega)
  clear h
  all_goals
    cbv
    refine ifB_intro (fun h => ?_) (fun h => ?_)
    · cbv
      refine err _ _ rfl (.inr (.inr (.inl ⟨h1, h0, h2, hD, ?_, rfl, rfl⟩)))
      obtain ⟨m0, m1, m2, m3⟩ := hM
      subst hA
      have h : IntKind.i64.wrap (mo - (k : Int)) < n := of_decide_eq_true h
      rw [wrap64 (by omega)] at h
      omega
    have hW : WQ xs xs dist n n k ∧ n ≤ mo - xs.length := by
      obtain ⟨m0, m1, m2, m3⟩ := hM
      subst hA
      have h : ¬ IntKind.i64.wrap (mo - (k : Int)) < n := of_decide_eq_false h
      rw [wrap64 (by omega)] at h
      exact ⟨⟨hk, h0, rfl, m3 (by omega)⟩, by omega⟩
    have fin : ∀ (t : List (Nat × SV)) (zs : List Int) (k' : Nat), look t 6 = .int .i64 0 → WQ xs zs dist n 0 k' → fi ⟨t, [.box 98 [.int .i64 wd, .int .i64 mo, .bool nn, .lst 2 k'], .gone, .lst 5 1 (A.ints .u8 zs)]⟩ := by
      intro t zs k' ht hq
      have hz : zs = cp xs dist.toNat n.toNat := hq.2.2.1
      subst hA hfi
      refine Fin_of ⟨[(6, .int .i64 0)], [.box 98 [.int .i64 wd, .int .i64 mo, .bool nn, .lst 2 k'], .gone, .lst 5 1 (R.ints .u8 zs)]⟩
        (Sub_of [0, 1, 2] (by simp [sigOk, ndG]) (by simp) ⟨fun _ => rfl, (by simp), ⟨⟨trivial, trivial, trivial, (show 2 < 3 by omega), trivial⟩, rfl⟩, fun _ => rfl, (by simp), trivial, fun h => absurd h (by simp), (by simp), subC_ints rfl, trivial⟩ ⟨.inr ⟨trivial, ht⟩, trivial⟩) ?_
      exact ⟨0, k', zs, .inr (.inr (.inr ⟨h1, h0, h2, hD, hW.2, rfl, hz⟩)), hq.1, rfl, rfl⟩
    obtain ⟨hW, -⟩ := hW
    clear h err
    cbv
    rw [hL]
    refine ⟨fun kk s => ∃ (zs : List Int) (k' : Nat) (n' : Int), WQ xs zs dist n n' k' ∧ kk = n'.toNat ∧ s = ⟨[(0, .ptr 0 0), (1, .int .i64 dist), (2, .int .i64 n'), (6, .int .i64 0)], [.box 98 [.int .i64 wd, .int .i64 mo, .bool nn, .lst 2 k'], .gone, .lst 5 1 (A.ints .u8 zs)]⟩,
      ⟨n.toNat, ⟨[(0, .ptr 0 0), (1, .int .i64 dist), (2, .int .i64 n), (6, .int .i64 0)], [.box 98 [.int .i64 wd, .int .i64 mo, .bool nn, .lst 2 k], .gone, .lst 5 1 (A.ints .u8 xs)]⟩, ?_, xs, k, n, hW, rfl, rfl⟩, ?_⟩
    · subst hA
      exact Sd [0, 1, 1] ⟨fun _ => rfl, (by simp), ⟨⟨trivial, trivial, trivial, (show 2 < 3 by omega), trivial⟩, rfl⟩, fun _ => rfl, (by simp), trivial, fun h => absurd h (by simp), (by simp), subC_ints rfl, trivial⟩
        ⟨.inr ⟨(show 0 < 3 by omega), rfl⟩, .inr ⟨trivial, rfl⟩, .inr ⟨trivial, rfl⟩, .inr ⟨trivial, rfl⟩, trivial⟩
    clear hW
    rintro kk _ ⟨zs, k', n', hW, hkk, rfl⟩
    cbv
    refine ifB_intro (fun h => ?_) (fun h => ?_)
    rw [h]
    cbv
    refine ifB_intro (fun h' => ?_) (fun h' => ?_)
    · rw [h']
      cbv
      have ha := apdA1 hA .u8 zs 0
      refine ⟨?_, ?_, ?_⟩
      · obtain ⟨w1, -⟩ := hW
        subst hA
        show (R.ints .u8 zs).length = k' * 1
        rw [R_ints_length]; omega
      · obtain ⟨w1, w2, w3, w4⟩ := hW
        subst hA
        show (k' + 1) * 1 ≤ room
        unfold room; omega
      subst hA hag
      obtain ⟨w1, w2, w3, w4⟩ := hW
      have h : 0 < n' := of_decide_eq_true h
      have h' : (k' : Int) < dist := of_decide_eq_true h'
      have e : IntKind.i64.wrap (n' - 1) = n' - 1 := wrap64 (by omega)
      refine ⟨(n' - 1).toNat, ⟨[(0, .ptr 0 0), (1, .int .i64 dist), (2, .int .i64 (IntKind.i64.wrap (n' - 1))), (6, .int .i64 0)], [.box 98 [.int .i64 wd, .int .i64 mo, .bool nn, .lst 2 (k' + 1)], .gone, .lst 5 1 (R.ints .u8 (zs ++ [0]))]⟩, by omega, ?_, zs ++ [0], k' + 1, IntKind.i64.wrap (n' - 1), ⟨?_, ?_, ?_, ?_⟩, by rw [e], rfl⟩
      · exact Sd [0, 1, 4] ⟨fun _ => rfl, (by simp), ⟨⟨trivial, trivial, trivial, (show 2 < 3 by omega), trivial⟩, rfl⟩, fun _ => rfl, (by simp), trivial, fun h => absurd h (by simp), (by simp), subC_ints (congrArg (fun l => some (Ck.lst 5 1 l)) ha), trivial⟩
          ⟨.inr ⟨(show 0 < 3 by omega), rfl⟩, .inr ⟨trivial, rfl⟩, .inr ⟨trivial, rfl⟩, .inr ⟨trivial, rfl⟩, trivial⟩
      · simp; omega
      · omega
      · rw [e, ← w3, show n'.toNat = (n' - 1).toNat + 1 by omega, cp, if_neg (by omega)]
      · rw [e]; simp; omega
    rw [h']
    have hV : W2 dist n' k' := by
      subst hA
      have h' : ¬ (k' : Int) < dist := of_decide_eq_false h'
      exact .inr (by omega)
    rotate_left
    rw [h]
    have hV : W2 dist n' k' := by
      subst hA
      have h : ¬ 0 < n' := of_decide_eq_false h
      exact .inl (by omega)
    all_goals
      clear h
      cbv
      refine loop_keep (fun kk s => ∃ (zs : List Int) (k' : Nat) (n' : Int), WQ xs zs dist n n' k' ∧ W2 dist n' k' ∧ kk = n'.toNat ∧ s = ⟨[(0, .ptr 0 0), (1, .int .i64 dist), (2, .int .i64 n'), (6, .int .i64 0)], [.box 98 [.int .i64 wd, .int .i64 mo, .bool nn, .lst 2 k'], .gone, .lst 5 1 (A.ints .u8 zs)]⟩) [0, 1, 2, 6] _ ⟨zs, k', n', hW, hV, rfl, rfl⟩ ?_
      clear hW hV
      rintro kk2 _ ⟨zs, k', n', hW, hV, hkk2, rfl⟩
      cbv
      refine ifB_intro (fun h => ?_) (fun h => ?_)
      · cbv
        obtain ⟨d, r, c, P, hP, hf1, hf2, hf3, hf4, hsub⟩ : ∃ (d r c : Nat) (P : List Int), PQ A zs P k' d r c dist n' ∧
            A.ge0 (A.bin .sub .i64 (A.nat k') dist) ∧ A.leI (A.bin .sub .i64 (A.nat k') dist) (A.bin .add .i64 (A.bin .sub .i64 (A.nat k') dist) (A.mn n' dist)) ∧ A.leI (A.bin .add .i64 (A.bin .sub .i64 (A.nat k') dist) (A.mn n' dist)) (A.nat k') ∧
            A.fit (A.add k' (A.cnt (A.bin .add .i64 (A.bin .sub .i64 (A.nat k') dist) (A.mn n' dist)) (A.bin .sub .i64 (A.nat k') dist))) 1 ∧
            sub1 (A.ints .u8 zs) (A.ix 0 (A.bin .sub .i64 (A.nat k') dist) 1) (A.cnt (A.bin .add .i64 (A.bin .sub .i64 (A.nat k') dist) (A.mn n' dist)) (A.bin .sub .i64 (A.nat k') dist)) = some (A.ints .u8 P) := by
          obtain ⟨w1, w2, w3, w4⟩ := hW
          have hn0 : 0 < n' := by subst hA; exact of_decide_eq_true h
          have hdk : dist ≤ (k' : Int) := by
            rcases hV with hV | hV
            · omega
            · exact hV
          obtain ⟨d, rfl⟩ : ∃ d : Nat, dist = d := ⟨dist.toNat, by omega⟩
          obtain ⟨N, rfl⟩ : ∃ N : Nat, n' = N := ⟨n'.toNat, by omega⟩
          have e1 : A.bin .sub .i64 (A.nat k') (d : Int) = (k' : Int) - d := by subst hA; exact wrap64 (n := (k' : Int) - d) (by omega)
          have e2 : A.mn (N : Int) (d : Int) = ((min N d : Nat) : Int) := by
            subst hA
            show (if (d : Int) < N then (d : Int) else N) = _
            split <;> omega
          have e3 : A.bin .add .i64 ((k' : Int) - d) ((min N d : Nat) : Int) = ((k' - d + min N d : Nat) : Int) := by
            subst hA
            have := wrap64 (n := (k' : Int) - d + ((min N d : Nat) : Int)) (by omega)
            exact this.trans (by omega)
          have e4 : A.cnt ((k' - d + min N d : Nat) : Int) ((k' : Int) - d) = min N d := by
            subst hA
            show (((k' - d + min N d : Nat) : Int) - ((k' : Int) - d)).toNat = _
            omega
          have e5 : A.bin .sub .i64 (N : Int) ((min N d : Nat) : Int) = ((N - min N d : Nat) : Int) := by
            subst hA
            have := wrap64 (n := (N : Int) - ((min N d : Nat) : Int)) (by omega)
            exact this.trans (by omega)
          have e6 : A.ix 0 ((k' : Int) - d) 1 = zs.length - d := by
            subst hA
            show 0 + ((k' : Int) - d).toNat * 1 = _
            omega
          refine ⟨d, N - min N d, min N d, (zs.drop (zs.length - d)).take (min N d), ⟨rfl, rfl, by omega, rfl, by omega, by omega, by rw [e1, e2, e3, e4], by rw [e2, e5]⟩, ?_, ?_, ?_, ?_, ?_⟩
          · rw [e1]; subst hA; show 0 ≤ (k' : Int) - d; omega
          · rw [e1, e2, e3]; subst hA; show (k' : Int) - d ≤ ((k' - d + min N d : Nat) : Int); omega
          · rw [e1, e2, e3]; subst hA; show ((k' - d + min N d : Nat) : Int) ≤ (k' : Int); omega
          · rw [e1, e2, e3, e4]; subst hA; show (k' + min N d) * 1 ≤ room; unfold room; omega
          · rw [e1, e2, e3, e4, e6]
            exact subA hA (by omega)
        have ha := apdA hA .u8 zs P
        refine ⟨hf1, hf2, hf3, bindO_some hsub (guardB_true (scA hA ..) ?_)⟩
        cbv
        refine ⟨?_, hf4, ?_⟩
        · obtain ⟨w1, -⟩ := hW
          subst hA
          show (R.ints .u8 zs).length = k' * 1
          rw [R_ints_length]; omega
        subst hA hag
        obtain ⟨w1, w2, w3, w4⟩ := hW
        obtain ⟨p1, p2, p3, p4, p5, p6, p7, p8⟩ := hP
        have hlen : P.length = c := by
          rw [p4]; simp
          have hdk : dist ≤ (k' : Int) := by
            rcases hV with hV | hV
            · omega
            · exact hV
          omega
        have hdk : dist ≤ (k' : Int) := by
          rcases hV with hV | hV
          · omega
          · exact hV
        have hadd : R.add k' (R.cnt (R.bin .add .i64 (R.bin .sub .i64 (R.nat k') dist) (R.mn n' dist)) (R.bin .sub .i64 (R.nat k') dist)) = k' + c := by rw [p7]; rfl
        refine ⟨r, ⟨[(0, .ptr 0 0), (1, .int .i64 dist), (2, .int .i64 (R.bin .sub .i64 n' (R.mn n' dist))), (6, .int .i64 0)], [.box 98 [.int .i64 wd, .int .i64 mo, .bool nn, .lst 2 (R.add k' (R.cnt (R.bin .add .i64 (R.bin .sub .i64 (R.nat k') dist) (R.mn n' dist)) (R.bin .sub .i64 (R.nat k') dist)))], .gone, .lst 5 1 (R.ints .u8 (zs ++ P))]⟩, by omega, ?_, zs ++ P, _, _, ⟨?_, ?_, ?_, ?_⟩, ?_, ?_, rfl⟩
        · exact Sd [0, 1, 3] ⟨fun _ => rfl, (by simp), ⟨⟨trivial, trivial, trivial, (show 2 < 3 by omega), trivial⟩, rfl⟩, fun _ => rfl, (by simp), trivial, fun h => absurd h (by simp), (by simp), subC_ints (congrArg (fun l => some (Ck.lst 5 1 l)) ha), trivial⟩
            ⟨.inr ⟨(show 0 < 3 by omega), rfl⟩, .inr ⟨trivial, rfl⟩, .inr ⟨trivial, rfl⟩, .inr ⟨trivial, rfl⟩, trivial⟩
        · rw [hadd, List.length_append, hlen]; omega
        · rw [p8]; omega
        · rw [p8, ← w3, show n'.toNat = c + r by omega, show dist.toNat = d by omega, p4, Int.toNat_natCast, ← cp_piece d (by omega) c r zs p5 (by omega)]
        · rw [p8, List.length_append, hlen]; push_cast; omega
        · rw [hadd]
          exact .inr (by push_cast; omega)
        · rw [p8, Int.toNat_natCast]
      · cbv
        refine fin _ _ _ rfl ?_
        obtain ⟨w1, w2, w3, w4⟩ := hW
        have h : ¬ 0 < n' := by subst hA; exact of_decide_eq_false h
        obtain rfl : n' = 0 := by omega
        exact ⟨w1, w2, w3, w4⟩
end Go.Sx

/- hist: the other contracts, calls of them, and that anything is told at all. -/
set_option maxRecDepth 100000
set_option maxHeartbeats 4000000
set_option linter.unusedVariables false
set_option linter.unusedSimpArgs false
namespace Go.Sx
open Go.Proofs.Tryd

theorem s_new (wd mo : Int) (nn : Bool) (hw : 1 ≤ wd ∧ wd ≤ 65536) (hm : 0 ≤ mo) : Spec prog 24 [.int .i64 wd, .int .i64 mo, .bool nn] []
    (fun r H => r = .tup [.ptr 0 0, .int .i64 0] ∧ H = [.box 98 [.int .i64 wd, .int .i64 mo, .bool nn, .lst 1 0], .lst 5 1 []]) := by
  refine Spec_of_xF (D := fun _ => (0, [])) (ks := [0, 1, 2, 6, 7]) tok mixed (fn := f24) rfl rfl rfl (by kernel_rfl) (N := 23) rfl (rs := [.tmp 6, .tmp 7]) rfl (by show 3 ≤ 23; omega) fun A C ag L fi hA hC hag hL hfi => ?_
  cbv
  refine ifB_intro (fun h => ?_) (fun h => ?_)
  · exfalso; subst hA; have h : wd < 1 := of_decide_eq_true h; omega
  rw [h]
  clear h
  cbv
  refine ifB_intro (fun h => ?_) (fun h => ?_)
  · exfalso; subst hA; have h : 65536 < wd := of_decide_eq_true h; omega
  rw [h]
  clear h
  cbv
  refine ifB_intro (fun h => ?_) (fun h => ?_)
  · exfalso; subst hA; have h : mo < 0 := of_decide_eq_true h; omega
  clear h
  cbv
  subst hfi
  refine Fin_of _ (Sub_nil (h := 0) (j := 3) (T := 98) (e := 5) (sz := 1) rfl rfl) ?_
  exact ⟨rfl, rfl⟩

theorem s_newbad (wd mo : Int) (nn : Bool) (hw : wd < 1 ∨ 65536 < wd ∨ mo < 0) : Spec prog 24 [.int .i64 wd, .int .i64 mo, .bool nn] [] (fun r H => r = .tup [.nilP, .int .i64 2] ∧ H = []) := by
  refine Spec_of_xX (D := fun _ => (0, [])) (ks := [0, 1, 2, 6, 7]) tok mixed (fn := f24) rfl rfl rfl (by kernel_rfl) (N := 23) rfl (rs := [.tmp 6, .tmp 7]) rfl (by show 3 ≤ 23; omega) fun A C ag L q hA hC hag hL hq => ?_
  cbv
  refine ifB_intro (fun h => ?_) (fun h => ?_)
  · rw [h]; cbv; subst hq; exact ⟨rfl, rfl⟩
  have h1 : ¬ wd < 1 := by subst hA; exact of_decide_eq_false h
  rw [h]
  clear h
  cbv
  refine ifB_intro (fun h => ?_) (fun h => ?_)
  · rw [h]; cbv; subst hq; exact ⟨rfl, rfl⟩
  have h2 : ¬ 65536 < wd := by subst hA; exact of_decide_eq_false h
  rw [h]
  clear h
  cbv
  refine ifB_intro (fun h => ?_) (fun h => ?_)
  · cbv; subst hq; exact ⟨rfl, rfl⟩
  exfalso; subst hA; have h : ¬ mo < 0 := of_decide_eq_false h; omega


theorem s_full (wd mo : Int) (k : Nat) (nn : Bool) (hw : 0 < wd) : Spec prog 27 [.ptr 0 0] [.vw [.int .i64 wd, .int .i64 mo, .bool nn, .lst 1 k], .vw []]
    (fun r H => r = .bool (R.cmp .eql (R.nat k) mo) ∧ H = [.vw [.int .i64 wd, .int .i64 mo, .bool nn, .lst 1 k], .vw []]) := by
  refine Spec_of_xX (D := fun i => if i = 1 then (12, []) else (0, [])) (ks := [0, 2]) tok mixed (fn := f27) rfl rfl rfl (by kernel_rfl) (N := 17) rfl (rs := [.tmp 2]) rfl (by show 1 ≤ 17; omega) fun A C ag L q hA hC hag hL hq => ?_
  cbv
  refine cal_vw hC (s_ok wd mo 0 k nn) [(0, 0, false), (1, 0, false)] rfl (matchVV2 ⟨trivial, trivial, trivial, (show 1 < 2 by omega), trivial⟩ ⟨trivial, trivial, trivial, rfl, trivial⟩ rfl rfl (by simp)) ⟨⟨(show 0 < 2 by omega), trivial, rfl⟩, trivial⟩ rfl ?_
  rw [decide_eq_true hw]
  cbv
  subst hA hq
  exact ⟨rfl, rfl⟩

theorem s_bytes (wd mo : Int) (k : Nat) (nn : Bool) (xs : List Int) (hk : k = xs.length) (hl : xs.length ≤ 1000000000000) (hw : 0 < wd) : Spec prog 29 [.ptr 0 0] [.vw [.int .i64 wd, .int .i64 mo, .bool nn, .lst 1 k], .vw (R.ints .u8 xs)]
    (fun r H => r = .lst 3 k ∧ H = [.vw [.int .i64 wd, .int .i64 mo, .bool nn, .lst 1 k], .vw (R.ints .u8 xs), .gone, .lst 5 1 (R.ints .u8 xs)]) := by
  refine Spec_of_xX (D := fun i => (0, [])) (ks := [0, 2]) tok mixed (fn := f29) rfl rfl rfl (by kernel_rfl) (N := 11) rfl (rs := [.tmp 2]) rfl (by show 1 ≤ 11; omega) fun A C ag L q hA hC hag hL hq => ?_
  have hS := s_clone xs k hk hl
  rw [← hA] at hS ⊢
  cbv
  refine cal_vw hC (s_ok wd mo 0 k nn) [(0, 0, false), (1, 0, false)] rfl (matchVV2 ⟨trivial, trivial, trivial, (show 1 < 2 by omega), trivial⟩ ⟨trivial, trivial, trivial, rfl, trivial⟩ rfl rfl (by simp)) ⟨⟨(show 0 < 2 by omega), trivial, rfl⟩, trivial⟩ rfl ?_
  rw [decide_eq_true hw]
  cbv
  refine ifB_intro (fun h => ?_) (fun h => ?_)
  · subst hA; exact absurd h (by decide)
  cbv
  refine cal_of hC hS [(1, 0, false)] ⟨by simp, trivial⟩ ⟨hLtsA hA .., zOksA hA .., ?_, trivial⟩ ⟨⟨(show 0 < 1 by omega), rfl, rfl, rfl, rfl⟩, trivial⟩ ?_
  · rw [renA hA, cellsAt_eq rfl (by simp [Ck.cells])]
    simp [Ck.cells]
  rintro _ _ ⟨rfl, rfl⟩
  refine ⟨_, _, [.vw [.int .i64 wd, .int .i64 mo, .bool nn, .lst 1 k], .vw (A.ints .u8 xs), .gone, .lst 5 1 (A.ints .u8 xs)], rfl, rfl, ?_, ?_⟩
  · simp only [backH, List.map_cons, List.map_nil, renCk, renA hA]
    rfl
  cbv
  subst hA hq
  exact ⟨rfl, rfl⟩
end Go.Sx

/- hist: calls of its functions; that anything is told at all; whether rows are the same. -/
set_option maxRecDepth 100000
set_option maxHeartbeats 4000000
set_option linter.unusedVariables false
set_option linter.unusedSimpArgs false
namespace Go.Sx
open Go.Proofs.Tryd

theorem backH3 {A : Ar} (hA : A = R) {T e : Nat} {k : IntKind} {xs : List Int} {g : Nat → Nat × Nat} {cs cs' : List SV} {sH : List Ck} {hb hr : Nat} (h3 : cs.map (renC g) = cs') :
    backH g [(hb, 0, true), (hr, 0, true)] [.box T cs, .gone, .lst e 1 (A.ints k xs)] sH = apd (set1 (set1 sH hb (.box T cs')) hr .gone) [.lst e 1 (A.ints k xs)] := by
  rw [apd_eq, set1_eq, set1_eq]
  simp only [backH, List.map_cons, List.map_nil, renCk, h3, renA hA, setAll, List.length_cons, List.length_nil, List.drop_succ_cons, List.drop_zero]

section
variable {A : Ar} {C : CallT} {xs : List Int} {wd mo : Int} {nn : Bool} {k hb hr : Nat} {s : St} {κ : List Nat → SV → List Ck → Prop}

theorem call_lit (hC : C = CallX prog) (hA : A = R) {c : Int} (hn : k = xs.length) (hl : xs.length ≤ 100000000000) (hw : 0 < wd) (hne : hb ≠ hr) (h4 : s.H[hb]? = some (.box 98 [.int .i64 wd, .int .i64 mo, .bool nn, .lst hr k])) (h5 : s.H[hr]? = some (.lst 5 1 (A.ints .u8 xs)))
    (hk : ∀ (e : Int) (k : Nat) (ys : List Int), LitQ mo c xs e ys → k = ys.length →
      κ [hb, hr] (.int .i64 e) (apd (set1 (set1 s.H hb (.box 98 [.int .i64 wd, .int .i64 mo, .bool nn, .lst (len1 s.H) k])) hr .gone) [.lst 5 1 (A.ints .u8 ys)])) : C 44 [.ptr hb 0, .int .u8 c] s κ := by
  have hS := s_lit wd mo c k nn xs hn hl hw
  rw [← hA] at hS
  refine cal_of hC hS [(hb, 0, true), (hr, 0, true)] ⟨by simp [hne], by simp, trivial⟩ (matchH2 hA ⟨trivial, trivial, trivial, (show 1 < 2 by omega), trivial⟩ ⟨trivial, trivial, trivial, rfl, trivial⟩ rfl h4 h5) ⟨⟨(show 0 < 2 by omega), trivial, rfl⟩, ⟨trivial, trivial, rfl⟩, trivial⟩ ?_
  rintro _ _ ⟨e, k', ys, hQ, hk', rfl, rfl⟩
  refine ⟨_, _, _, rfl, rfl, backH3 hA rfl, ?_⟩
  have := hk e k' ys hQ hk'
  rw [len1_eq] at this
  exact this

theorem call_copy (hC : C = CallX prog) (hA : A = R) {dist n : Int} (hn : k = xs.length) (hM : MQ mo n xs) (hw : 0 < wd) (hne : hb ≠ hr) (h4 : s.H[hb]? = some (.box 98 [.int .i64 wd, .int .i64 mo, .bool nn, .lst hr k])) (h5 : s.H[hr]? = some (.lst 5 1 (A.ints .u8 xs)))
    (hk : ∀ (e : Int) (k : Nat) (ys : List Int), CpQ wd mo nn xs dist n e ys → k = ys.length →
      κ [hb, hr] (.int .i64 e) (apd (set1 (set1 s.H hb (.box 98 [.int .i64 wd, .int .i64 mo, .bool nn, .lst (len1 s.H) k])) hr .gone) [.lst 5 1 (A.ints .u8 ys)])) : C 45 [.ptr hb 0, .int .i64 dist, .int .i64 n] s κ := by
  have hS := s_copy wd mo dist n k nn xs hn hw hM
  rw [← hA] at hS
  refine cal_of hC hS [(hb, 0, true), (hr, 0, true)] ⟨by simp [hne], by simp, trivial⟩ (matchH2 hA ⟨trivial, trivial, trivial, (show 1 < 2 by omega), trivial⟩ ⟨trivial, trivial, trivial, rfl, trivial⟩ rfl h4 h5) ⟨⟨(show 0 < 2 by omega), trivial, rfl⟩, ⟨trivial, trivial, rfl⟩, ⟨trivial, trivial, rfl⟩, trivial⟩ ?_
  rintro _ _ ⟨e, k', ys, hQ, hk', rfl, rfl⟩
  refine ⟨_, _, _, rfl, rfl, backH3 hA rfl, ?_⟩
  have := hk e k' ys hQ hk'
  rw [len1_eq] at this
  exact this


theorem call_full (hC : C = CallX prog) (hA : A = R) (hw : 0 < wd) (h4 : s.H[hb]? = some (.box 98 [.int .i64 wd, .int .i64 mo, .bool nn, .lst hr k])) (hr' : hr < s.H.length) (hk : κ [] (.bool (A.cmp .eql (A.nat k) mo)) s.H) : C 27 [.ptr hb 0] s κ := by
  subst hA
  exact cal_vw hC (s_full wd mo k nn hw) [(hb, 0, false), (hr, 0, false)] rfl (matchV2 ⟨trivial, trivial, trivial, (show 1 < 2 by omega), trivial⟩ ⟨trivial, trivial, trivial, rfl, trivial⟩ rfl h4 hr') ⟨⟨(show 0 < 2 by omega), trivial, rfl⟩, trivial⟩ rfl hk

theorem call_bytes (hC : C = CallX prog) (hA : A = R) (hn : k = xs.length) (hl : xs.length ≤ 1000000000000) (hw : 0 < wd) (h4 : s.H[hb]? = some (.box 98 [.int .i64 wd, .int .i64 mo, .bool nn, .lst hr k])) (h5 : s.H[hr]? = some (.lst 5 1 (A.ints .u8 xs)))
    (hk : κ [] (.lst (len1 s.H + 1) k) (apd s.H [.gone, .lst 5 1 (A.ints .u8 xs)])) : C 29 [.ptr hb 0] s κ := by
  have hS := s_bytes wd mo k nn xs hn hl hw
  rw [← hA] at hS
  refine cal_of hC hS [(hb, 0, false), (hr, 0, false)] ⟨by simp, by simp, trivial⟩ ⟨⟨trivial, trivial, trivial, (show 1 < 2 by omega), trivial⟩, ⟨trivial, trivial, trivial, rfl, trivial⟩, ?_, hLtsA hA .., zOksA hA .., ?_, trivial⟩ ⟨⟨(show 0 < 2 by omega), trivial, rfl⟩, trivial⟩ ?_
  · rw [cellsAt_eq h4 (by simp [Ck.cells])]; rfl
  · rw [renA hA, cellsAt_eq h5 (by simp [Ck.cells])]; simp [Ck.cells]
  rintro _ _ ⟨rfl, rfl⟩
  refine ⟨_, _, s.H ++ [.gone, .lst 5 1 (A.ints .u8 xs)], rfl, rfl, ?_, ?_⟩
  · simp only [backH, List.map_cons, List.map_nil, renCk, renA hA]
    rfl
  · rw [len1_eq, apd_eq] at hk
    exact hk

theorem call_new (hC : C = CallX prog) (hA : A = R) (hw : 1 ≤ wd ∧ wd ≤ 65536) (hm : 0 ≤ mo)
    (hk : κ [] (.tup [.ptr (len1 s.H) 0, .int .i64 0]) (apd s.H [.box 98 [.int .i64 wd, .int .i64 mo, .bool nn, .lst (len1 s.H + 1) 0], .lst 5 1 (A.ints .u8 [])])) : C 24 [.int .i64 wd, .int .i64 mo, .bool nn] s κ := by
  refine cal_of hC (s_new wd mo nn hw hm) [] trivial trivial ⟨⟨trivial, trivial, rfl⟩, ⟨trivial, trivial, rfl⟩, ⟨trivial, trivial, rfl⟩, trivial⟩ ?_
  rintro _ _ ⟨rfl, rfl⟩
  refine ⟨_, _, s.H ++ [.box 98 [.int .i64 wd, .int .i64 mo, .bool nn, .lst (s.H.length + 1) 0], .lst 5 1 (A.ints .u8 [])], rfl, rfl, ?_, ?_⟩
  · subst hA; rfl
  · rw [len1_eq, apd_eq] at hk
    exact hk
end

/-- The rows' first elements are the same. -/
def SQ (xs ys : List Int) (i : Nat) (j : Int) : Prop := j = i ∧ i ≤ xs.length ∧ xs.length = ys.length ∧ xs.take i = ys.take i

def YQ (xs ys : List Int) (i : Nat) (x y : Int) : Prop := x = xs.getD i 0 ∧ y = ys.getD i 0

/-- Whether rows are the same. -/
theorem s_same (xs ys : List Int) (a b : Nat) (ha : a = xs.length) (hb : b = ys.length) (hl : xs.length ≤ 1000000000000) : Spec prog 12 [.sl 0 0 a false, .sl 1 0 b false] [.vw (R.ints .u8 xs), .vw (R.ints .u8 ys)]
    (fun r H => r = .bool (decide (xs = ys)) ∧ H = [.vw (R.ints .u8 xs), .vw (R.ints .u8 ys)]) := by
  refine Spec_of_xX (D := fun i => if i = 6 then (8, []) else (0, [])) (ks := [0, 1, 4, 5]) tok mixed (fn := f12) rfl rfl rfl (by kernel_rfl) (N := 26) rfl (rs := [.tmp 4]) rfl (by show 2 ≤ 26; omega) fun A C ag L q hA hC hag hL hq => ?_
  rw [← hA]
  cbv
  refine ifB_intro (fun h => ?_) (fun h => ?_)
  · cbv
    subst hA hq
    have h : ((a : Int) != (b : Int)) = true := h
    refine ⟨?_, rfl⟩
    rw [decide_eq_false]
    intro e
    subst e
    rw [ha, hb] at h
    simp at h
  have hab : SQ xs ys 0 0 := by
    subst hA
    have h : ((a : Int) != (b : Int)) = false := h
    refine ⟨rfl, by omega, ?_, rfl⟩
    have : (a : Int) = b := by simpa using h
    omega
  clear h
  cbv
  rw [hL]
  refine loop_keep (fun k s => ∃ (i : Nat) (j : Int), SQ xs ys i j ∧ k = xs.length - i ∧ s = ⟨[(0, .sl 0 0 a false), (1, .sl 1 0 b false), (4, .bool false), (5, .int .i64 j)], [.vw (A.ints .u8 xs), .vw (A.ints .u8 ys)]⟩) [0, 1, 4, 5] _ ⟨0, 0, hab, rfl, rfl⟩ ?_
  rintro k _ ⟨i, j, hS, hk, rfl⟩
  cbv
  refine ifB_intro (fun h => ?_) (fun h => ?_)
  · cbv
    have hlt : 0 + j.toNat < xs.length ∧ 0 + j.toNat < ys.length ∧ A.inr j a ∧ A.inr j b ∧ j.toNat = i := by
      obtain ⟨h1, h2, h3, h4⟩ := hS
      subst hA
      have h : j < (a : Int) := of_decide_eq_true h
      exact ⟨by omega, by omega, ⟨by omega, h⟩, ⟨by omega, by omega⟩, by omega⟩
    obtain ⟨x, hx, hx2⟩ := nthA_ex hA .u8 hlt.1
    obtain ⟨y, hy, hy2⟩ := nthA_ex hA .u8 hlt.2.1
    have hxy : YQ xs ys i x y := by rw [hlt.2.2.2.2, Nat.zero_add] at hx2 hy2; exact ⟨hx2, hy2⟩
    refine ⟨hlt.2.2.1, bindO_some hx ?_⟩
    clear hx2 hy2
    cbv
    refine ⟨hlt.2.2.2.1, bindO_some hy ?_⟩
    cbv
    refine ifB_intro (fun h' => ?_) (fun h' => ?_)
    · cbv
      subst hA hq
      have h' : (x != y) = true := h'
      refine ⟨?_, rfl⟩
      rw [decide_eq_false]
      intro e
      rw [hxy.1, hxy.2, e] at h'
      simp at h'
    · cbv
      subst hA hag
      obtain ⟨h1, h2, h3, h4⟩ := hS
      have h : j < (a : Int) := of_decide_eq_true h
      have h' : (x != y) = false := h'
      have e : IntKind.i64.wrap (j + 1) = j + 1 := wrap64 (by omega)
      refine again_keep [0, 1, 4, 5] (xs.length - (i + 1)) (by omega) ⟨i + 1, IntKind.i64.wrap (j + 1), ⟨by omega, by omega, h3, ?_⟩, rfl, rfl⟩
      have hxe : x = y := by simpa using h'
      have l1 : i < xs.length := by omega
      have l2 : i < ys.length := by omega
      rw [List.take_add_one, List.take_add_one, h4]
      have e1 := hxy.1
      have e2 := hxy.2
      simp only [List.getD, List.getElem?_eq_getElem l1, List.getElem?_eq_getElem l2, Option.getD_some] at e1 e2
      rw [List.getElem?_eq_getElem l1, List.getElem?_eq_getElem l2, ← e1, ← e2, hxe]
  · cbv
    subst hA hq
    obtain ⟨h1, h2, h3, h4⟩ := hS
    have h : ¬ j < (a : Int) := of_decide_eq_false h
    refine ⟨?_, rfl⟩
    rw [decide_eq_true]
    have : i = xs.length := by omega
    rw [this] at h4
    rw [List.take_length, h3, List.take_length] at h4
    exact h4
end Go.Sx

/- The writer: Align, PutBytes, Bytes, Len, New. -/
set_option maxRecDepth 100000
set_option maxHeartbeats 4000000
set_option linter.unusedVariables false
set_option linter.unusedSimpArgs false
namespace Go.Sx
open Go.Proofs.Tryd

section
variable {A : Ar} {C : CallT} {W : Int} {P k n hb hr : Nat} {ys : List Int} {hold nI : Int} {s : St} {κ : List Nat → SV → List Ck → Prop}

end

/-- So many bits, up to a byte's end. -/
def up8 (P : Nat) : Nat := (P + 7) / 8 * 8

section
variable {A : Ar} {C : CallT} {W : Int} {P k n hb hr : Nat} {ys : List Int} {hold nI : Int} {s : St} {κ : List Nat → SV → List Ck → Prop}
end

end Go.Sx

/- The reader: Align, Bytes; calls of all that reads. -/
set_option maxRecDepth 100000
set_option maxHeartbeats 2000000
set_option linter.unusedVariables false
set_option linter.unusedSimpArgs false
namespace Go.Sx
open Go.Proofs.Tryd

theorem and7 : ∀ n : Fin 64, band .i64 (n.1 : Int) 7 = ((n.1 % 8 : Nat) : Int) := by decide
theorem and7' {b : Nat} {nb : Int} (h : nb = b) (hb : b ≤ 39) : band .i64 nb 7 = ((b % 8 : Nat) : Int) := by
  rw [h]; exact and7 ⟨b, by omega⟩

theorem RF_drop {xs : List Int} {m p a b k : Nat} {at_ hold nb : Int} (hx : RX xs m) (hF : RF xs p a b at_ hold nb) (hk : k ≤ b) : RF xs (p + k) a (b - k) at_ (shrI .u64 hold k) (IntKind.i64.wrap (nb - k)) := by
  obtain ⟨h1, h2, h3, h4, h5, h6⟩ := hF
  refine ⟨h1, ?_, by omega, h4, by omega, ?_⟩
  · rw [wrap64 (by omega)]; omega
  · rw [shr64 (by omega), h6, cut_drop _ _ _ _ hk]

theorem s_ralign1 (xs : List Int) (m p a b : Nat) (hx : RX xs m) (at_ hold nb er : Int) (hF : RF xs p a b at_ hold nb) :
    Spec prog 68 [.ptr 0 0] [.box 101 [.lst 1 m, .int .i64 at_, .int .u64 hold, .int .i64 nb, .int .i64 er, .bool true], .lst 5 1 (R.ints .u8 xs)]
      (fun r H => ∃ (p' a b : Nat) (at_ hold nb : Int), RF xs p' a b at_ hold nb ∧ p' = (if er = 0 then up8 p else p) ∧ r = .tup [] ∧ H = [.box 101 [.lst 1 m, .int .i64 at_, .int .u64 hold, .int .i64 nb, .int .i64 er, .bool true], .lst 5 1 (R.ints .u8 xs)]) := by
  refine Spec_of_kX (D := fun i => (0, [])) (ks := [0]) tok mixed (fn := f68) rfl rfl rfl (by kernel_rfl) (N := 12) rfl (rs := []) rfl (Nat.le_of_ble_eq_true rfl) fun A C Kp E ag L q hA hC hK hE hag hL hq => ?_
  rw [← hA]
  cbv
  refine call_err hC rfl (by simp) ?_
  cbv
  refine ifB_intro (fun h => ?_) (fun h => ?_)
  · have he := h
    (try simp only [wA hA] at he)
    (try rw [h]); clear h
    cbv
    obtain ⟨k, hk⟩ : ∃ k, k = b % 8 := ⟨_, rfl⟩
    have hand : A.bin .and .i64 nb 7 = (k : Int) := by rw [andA hA, and7' hF.2.1 hF.2.2.2.2.1, hk]
    have hS := s_drop m xs at_ hold nb er (A.bin .and .i64 nb 7) (by rw [hand]; omega)
    rw [← hA] at hS
    refine cal_of hC hS [(0, 0, true), (1, 0, true)] ⟨by simp, by simp, trivial⟩ (matchH2 hA ⟨(show 1 < 2 by omega), trivial, trivial, trivial, trivial, trivial, trivial⟩ ⟨rfl, trivial, trivial, trivial, trivial, trivial, trivial⟩ rfl rfl rfl) ⟨⟨(show 0 < 2 by omega), trivial, rfl⟩, ⟨trivial, trivial, rfl⟩, trivial⟩ ?_
    rintro _ _ ⟨rfl, rfl⟩
    refine ⟨_, _, _, rfl, rfl, backH2 hA rfl, ?_⟩
    have hF2 := RF_drop hx hF (k := k) (by omega)
    rw [← hand] at hF2
    obtain ⟨u, hu⟩ : ∃ u, u = shrI .u64 hold (A.bin .and .i64 nb 7) := ⟨_, rfl⟩
    obtain ⟨v, hv⟩ : ∃ v, v = IntKind.i64.wrap (nb - A.bin .and .i64 nb 7) := ⟨_, rfl⟩
    rw [← hu, ← hv] at hF2 ⊢
    clear hS hand hu hv
    cbv
    subst hA hq
    refine ⟨p + k, a, b - k, at_, u, v, hF2, ?_, rfl, rfl⟩
    rw [if_pos he]
    unfold up8
    have := hF.2.2.1
    omega
  · have he := h
    (try simp only [wA hA] at he)
    (try rw [h]); clear h
    cbv
    subst hA hq
    exact ⟨p, a, b, at_, hold, nb, hF, by rw [if_neg he], rfl, rfl⟩

end Go.Sx

/- The law of copies over and over: its walk. -/
set_option maxRecDepth 100000
set_option maxHeartbeats 4000000
set_option linter.unusedVariables false
set_option linter.unusedSimpArgs false
namespace Go.Sx
open Go.Proofs.Tryd

section
variable {A : Ar} {C : CallT} {xs ys : List Int} {a b : Nat} {s : St} {κ : List Nat → SV → List Ck → Prop}
theorem call_same (hC : C = CallX prog) (hA : A = R) (f : List Lk) (h1 o1 h2 o2 : Nat) (hf : f = [(h1, o1, false), (h2, o2, false)]) {av : List SV} (ha : a = xs.length) (hb : b = ys.length) (hl : xs.length ≤ 1000000000000)
    (k1 : cellsAt s.H h1 o1 a = some (A.ints .u8 xs)) (k2 : cellsAt s.H h2 o2 b = some (A.ints .u8 ys)) (hargs : argsOk 2 (linkOf s.H.length f) [.sl 0 0 a false, .sl 1 0 b false] av)
    (hk : ∀ t, t = decide (xs = ys) → κ [] (.bool t) s.H)   : C 12 av s κ := by
  subst hf
  have hS := s_same xs ys a b ha hb hl
  rw [← hA] at hS
  refine cal_vw hC hS [(h1, o1, false), (h2, o2, false)] rfl ⟨hLtsA hA .., zOksA hA .., ?_, hLtsA hA .., zOksA hA .., ?_, trivial⟩ hargs rfl (hk _ rfl)
  · have : (A.ints .u8 xs).length = a := by subst hA; rw [R_ints_length, ha]
    rw [this, renA hA]; exact k1
  · have : (A.ints .u8 ys).length = b := by subst hA; rw [R_ints_length, hb]
    rw [this, renA hA]; exact k2

theorem call_cut (hC : C = CallX prog) (hA : A = R) {hb m : Nat} {n : Int} {bs : List Int} (h0 : 0 ≤ n) (h4 : s.H[hb]? = some (.vw (A.ints .u8 bs))) (hm : m = bs.length) (hk : ∀ k : Nat, k = min m n.toNat → κ [] (.sl hb 0 k false) s.H) : C 8 [.sl hb 0 m false, .int .i64 n] s κ := by
  have hcut := s_cut bs m n h0
  rw [← hA] at hcut
  refine cal_of hC hcut [(hb, 0, false)] ⟨by simp, trivial⟩ ⟨hLtsA hA .., zOksA hA .., ?_, trivial⟩ ⟨⟨(show 0 < 1 by omega), rfl, rfl, rfl⟩, ⟨trivial, trivial, rfl⟩, trivial⟩ ?_
  · rw [renA hA, cellsAt_eq h4 (by simp [Ck.cells])]
    simp [Ck.cells]
  rintro _ _ ⟨k, hkk, rfl, rfl⟩
  refine ⟨_, _, s.H, rfl, rfl, ?_, hk k hkk⟩
  simp [backH, setAll]
end

end Go.Sx

/- The law of plays (07): its walk. -/
set_option maxRecDepth 100000
set_option maxHeartbeats 4000000
set_option linter.unusedVariables false
set_option linter.unusedSimpArgs false
namespace Go.Sx
open Go.Proofs.Tryd

section
variable {A : Ar} {C : CallT} {s : St} {κ : List Nat → SV → List Ck → Prop}
/-- Whether two rows of one's own are the same. -/
theorem call_sameL (hC : C = CallX prog) (hA : A = R) {xs ys : List Int} {h1 h2 a b : Nat} (ha : a = xs.length) (hb : b = ys.length) (hl : xs.length ≤ 1000000000000)
    (k1 : s.H[h1]? = some (.lst 5 1 (A.ints .u8 xs))) (k2 : s.H[h2]? = some (.lst 5 1 (A.ints .u8 ys)))
    (hk : ∀ t, t = decide (xs = ys) → κ [] (.bool t) s.H) : C 12 [.lst h1 a, .lst h2 b] s κ := by
  refine call_same hC hA _ h1 0 h2 0 rfl ha hb hl ?_ ?_ ⟨⟨(show 0 < 2 by omega), rfl, rfl, rfl, rfl⟩, ⟨(show 1 < 2 by omega), rfl, rfl, rfl, rfl⟩, trivial⟩ hk
  · subst hA
    rw [cellsAt_eq k1 (by show 0 + a ≤ (R.ints .u8 xs).length; rw [R_ints_length]; omega)]
    show some (((ints .u8 xs).drop 0).take a) = some (ints .u8 xs)
    rw [List.drop_zero, ints_take, ha, List.take_length]
  · subst hA
    rw [cellsAt_eq k2 (by show 0 + b ≤ (R.ints .u8 ys).length; rw [R_ints_length]; omega)]
    show some (((ints .u8 ys).drop 0).take b) = some (ints .u8 ys)
    rw [List.drop_zero, ints_take, hb, List.take_length]
end

end Go.Sx

/- Calls of all that reads; the law of readings: its walk. -/
set_option maxRecDepth 100000
set_option maxHeartbeats 2000000
set_option linter.unusedVariables false
set_option linter.unusedSimpArgs false
namespace Go.Sx
open Go.Proofs.Tryd

section
variable {A : Ar} {C : CallT} {xs : List Int} {m p a b : Nat} {at_ hold nb er : Int} {hb hr : Nat} {s : St} {κ : List Nat → SV → List Ck → Prop}

theorem call_align1 (hC : C = CallX prog) (hA : A = R) (hx : RX xs m) (hF : RF xs p a b at_ hold nb) (hne : hb ≠ hr) (h4 : s.H[hb]? = some (.box 101 [.lst hr m, .int .i64 at_, .int .u64 hold, .int .i64 nb, .int .i64 er, .bool true])) (h5 : s.H[hr]? = some (.lst 5 1 (A.ints .u8 xs)))
    (hk : ∀ (p' a b : Nat) (at_ hold nb : Int), RF xs p' a b at_ hold nb → p' = (if er = 0 then up8 p else p) →
      κ [hb, hr] (.tup []) (set1 (set1 s.H hb (.box 101 [.lst hr m, .int .i64 at_, .int .u64 hold, .int .i64 nb, .int .i64 er, .bool true])) hr (.lst 5 1 (A.ints .u8 xs)))) : C 68 [.ptr hb 0] s κ := by
  have hS := s_ralign1 xs m p a b hx at_ hold nb er hF
  rw [← hA] at hS
  refine cal_of hC hS [(hb, 0, true), (hr, 0, true)] ⟨by simp [hne], by simp, trivial⟩ (matchH2 hA ⟨(show 1 < 2 by omega), trivial, trivial, trivial, trivial, trivial, trivial⟩ ⟨rfl, trivial, trivial, trivial, trivial, trivial, trivial⟩ rfl h4 h5) ⟨⟨(show 0 < 2 by omega), trivial, rfl⟩, trivial⟩ ?_
  rintro _ _ ⟨p', a, b, at_, hold, nb, hF', hp', rfl, rfl⟩
  refine ⟨_, _, _, rfl, rfl, backH2 hA rfl, ?_⟩
  have := hk p' a b at_ hold nb hF' hp'
  rw [set1_eq, set1_eq] at this
  exact this

end

section
variable {A : Ar} {C : CallT} {xs ws : List Int} {m p hb hv : Nat} {pI er : Int} {s : St} {κ : List Nat → SV → List Ck → Prop}

end

end Go.Sx

/- canon: the document's own answers (04): which symbol stands there; whether words are the same. -/
set_option maxRecDepth 100000
set_option maxHeartbeats 4000000
set_option linter.unusedVariables false
set_option linter.unusedSimpArgs false
namespace Go.Sx
open Go.Proofs.Tryd

theorem mxL_ge : ∀ (rs : List (List Int)) (s : Nat), s < rs.length → (rs.getD s []).getD 1 0 ≤ mxL rs
  | [], s, h => by simp at h
  | r :: rs, 0, _ => by
    simp only [mxL, List.getD_cons_zero]
    split <;> omega
  | r :: rs, s + 1, h => by
    have := mxL_ge rs s (by simpa using h)
    simp only [mxL, List.getD_cons_succ]
    split <;> omega
theorem mxL_hit : ∀ (rs : List (List Int)), mxL rs = 0 ∨ ∃ s, s < rs.length ∧ (rs.getD s []).getD 1 0 = mxL rs
  | [] => .inl rfl
  | r :: rs => by
    simp only [mxL]
    split
    · exact .inr ⟨0, by simp, rfl⟩
    · rcases mxL_hit rs with h | ⟨s, h1, h2⟩
      · exact .inl h
      · exact .inr ⟨s + 1, by simpa using h1, by simpa using h2⟩
theorem mxL_0 : ∀ (rs : List (List Int)), 0 ≤ mxL rs
  | [] => by simp [mxL]
  | r :: rs => by
    have := mxL_0 rs
    simp only [mxL]
    split <;> omega
theorem codesL_at {l : List Int} {s : Nat} (hs : s < l.length) : (codesL l).getD s [] = rowC l s := by simp [codesL, List.getD, hs]
theorem codesL_len (l : List Int) : (codesL l).length = l.length := by simp [codesL]
theorem rowC_1 {l : List Int} (h : Lens l) {s : Nat} (hs : s < l.length) : (rowC l s).getD 1 0 = l.getD s 0 := by
  obtain ⟨w, hw, _⟩ := rowC_two h hs
  rw [hw]; rfl
theorem DecQ.long {l : List Int} {lg : Int} {sy tb : List Int} (h : DecQ l lg sy tb) : lg = mxL (codesL l) := by
  have h0 := mxL_0 (codesL l)
  have h1 : lg ≤ mxL (codesL l) := by
    by_cases hp : 0 < lg
    · obtain ⟨s, h2, h3⟩ := h.hit hp
      have := mxL_ge (codesL l) s (by rw [codesL_len]; exact h2)
      rw [codesL_at h2, rowC_1 h.lens h2] at this
      omega
    · omega
  rcases mxL_hit (codesL l) with h2 | ⟨s, h2, h3⟩
  · have := h.lg0; omega
  · rw [codesL_len] at h2
    rw [codesL_at h2, rowC_1 h.lens h2] at h3
    by_cases hp : 0 < l.getD s 0
    · have := h.max s h2 hp; omega
    · have := h.lg0; omega

section
variable {A : Ar} {C : CallT} {s : St} {κ : List Nat → SV → List Ck → Prop}
end

theorem s_samei (l : List Int) (ln : Nat) (hln : ln = l.length) (hl : l.length ≤ 1000000) : Spec prog 18 [.sl 0 0 ln false, .sl 1 0 ln false] [.vw (R.ints .i64 l), .vw (R.ints .i64 l)] (fun r H => r = .bool true ∧ H = [.vw (R.ints .i64 l), .vw (R.ints .i64 l)]) := by
  refine Spec_of_kX (D := fun i => if i = 6 then (8, []) else (0, [])) (ks := [0, 1, 4, 5]) tok mixed (fn := f18) rfl rfl rfl (by kernel_rfl) (N := 26) rfl (rs := [.tmp 4]) rfl (Nat.le_of_ble_eq_true rfl) fun A C Kp E ag L q hA hC hK hE hag hL hq => ?_
  rw [← hA]
  cbv
  (try simp only [ncast] at *)
  refine ifF (by (first | omega | (try simp only [wA hA, wB hA, Go.IntKind.wrap_i64] at *) <;> omega | (try simp only [decide_eq_true_eq, decide_eq_false_iff_not, beq_iff_eq, beq_eq_false_iff_ne, bne_iff_ne, bne_eq_false_iff_eq, Bool.not_eq_true', Bool.not_eq_false', ncast, Int.not_lt, Int.not_le, ne_eq, not_true_eq_false, not_false_eq_true, false_or, true_and, Go.IntKind.wrap_i64] at *) <;> omega)) fun h => ?_
  (try rw [h]); clear h
  cbv
  (try simp only [ncast] at *)
  rw [hL]
  refine loop_keep (fun kk s => ∃ (i : Int) (j : Nat), i = (j : Int) ∧ j ≤ l.length ∧ kk = l.length - j ∧ s = ⟨[(0, .sl 0 0 ln false), (1, .sl 1 0 ln false), (5, .int .i64 i)], [.vw (A.ints .i64 l), .vw (A.ints .i64 l)]⟩) [0, 1, 5] l.length ⟨0, 0, rfl, by omega, rfl, rfl⟩ ?_
  rintro kk _ ⟨i, j, hi, hj, hkk, rfl⟩
  cbv
  (try simp only [ncast] at *)
  refine ifB_intro (fun h => ?_) (fun h => ?_)
  · have hlt := h
    (try simp only [wA hA] at hlt)
    (try rw [h]); clear h
    cbv
    (try simp only [ncast] at *)
    refine rdA hA (by (first | omega | (try simp only [wA hA, wB hA, Go.IntKind.wrap_i64] at *) <;> omega | (try simp only [decide_eq_true_eq, decide_eq_false_iff_not, beq_iff_eq, beq_eq_false_iff_ne, bne_iff_ne, bne_eq_false_iff_eq, Bool.not_eq_true', Bool.not_eq_false', ncast, Int.not_lt, Int.not_le, ne_eq, not_true_eq_false, not_false_eq_true, false_or, true_and, Go.IntKind.wrap_i64] at *) <;> omega)) (by (first | omega | (try simp only [wA hA, wB hA, Go.IntKind.wrap_i64] at *) <;> omega | (try simp only [decide_eq_true_eq, decide_eq_false_iff_not, beq_iff_eq, beq_eq_false_iff_ne, bne_iff_ne, bne_eq_false_iff_eq, Bool.not_eq_true', Bool.not_eq_false', ncast, Int.not_lt, Int.not_le, ne_eq, not_true_eq_false, not_false_eq_true, false_or, true_and, Go.IntKind.wrap_i64] at *) <;> omega)) fun x hx => ?_
    cbv
    (try simp only [ncast] at *)
    refine rdA hA (by omega) (by omega) fun y hy => ?_
    rw [← hx] at hy
    obtain rfl : x = y := hy.symm
    cbv
    (try simp only [ncast] at *)
    refine ifF (by simp only [neqA hA]; simp) fun h => ?_
    (try rw [h]); clear h
    cbv
    (try simp only [ncast] at *)
    have hi2 : A.bin .add .i64 i 1 = i + 1 := by rw [addA hA, wrap64 (by omega)]
    simp only [hi2]
    subst hag
    exact again_keep [0, 1, 5] (l.length - (j + 1)) (by omega) ⟨i + 1, j + 1, by omega, by omega, rfl, rfl⟩
  · have hge := h
    (try simp only [wA hA] at hge)
    (try rw [h]); clear h
    cbv
    (try simp only [ncast] at *)
    subst hA hq
    exact ⟨rfl, rfl⟩
end Go.Sx

/- canon: calls; a decoder that no call made; that any lengths have words. -/
set_option maxRecDepth 100000
set_option maxHeartbeats 4000000
set_option linter.unusedVariables false
set_option linter.unusedSimpArgs false
namespace Go.Sx
open Go.Proofs.Tryd

theorem WrQ_lens {l : List Int} (h : WrQ l 0) : Lens l := by
  rcases h with h | h | h
  · omega
  · omega
  · exact ⟨h.1, h.2.1⟩
theorem DecQ_of {l tb : List Int} (h : WrQ l 0) (ht : TbQ l l.length tb) : DecQ l (lgA l 16) (syA l 16) tb := by
  have hL := WrQ_lens h
  refine ⟨hL, ?_, fun s hs h0 => lgA_max l 16 s hs h0 (hL.at s).2, lgA_hit l 16, fun x k hx hk => syA_at l hx hk, ht, ?_⟩
  · have := lgA_bnd l 16; omega
  · have h1 := syA_len l 16
    have h2 := hL.len
    omega

section
variable {A : Ar} {C : CallT} {s : St} {κ : List Nat → SV → List Ck → Prop}
theorem call_cnew (hC : C = CallX prog) (hA : A = R) {l : List Int} {hb ln : Nat} (hln : ln = l.length) (h4 : cellsAt s.H hb 0 ln = some (A.ints .i64 l)) {av : List SV} (hav : argsOk 1 (linkOf s.H.length [(hb, 0, false)]) [.sl 0 0 ln false] av)
    (hk1 : ∀ e, WrQ l e → e ≠ 0 → κ [] (.tup [.nilP, .int .i64 e]) s.H)
    (hk2 : ∀ (lg : Int) (sy tb : List Int) (dc : List SV) (ks : Nat), WrQ l 0 → DecQ l lg sy tb → IsDC dc true lg (cvec l) (fvec (cvec l)) (.lst (len1 s.H + 1) ks) tb → ks = sy.length → κ [] (.tup [.ptr (len1 s.H) 0, .int .i64 0]) (apd s.H [.box 147 dc, .lst 3 1 (A.ints .i64 sy)])) : C 73 av s κ := by
  have hS := s_cnew l ln hln
  rw [← hA] at hS
  refine cal_of hC hS [(hb, 0, false)] ⟨by simp, trivial⟩ ⟨hLtsA hA .., zOksA hA .., ?_, trivial⟩ hav ?_
  · rw [renA hA, A_ints_len hA, ← hln]; exact h4
  rintro _ _ (⟨e, h1, h2, rfl, rfl⟩ | ⟨dc, ks, tb, h1, h2, h3, h5, rfl, rfl⟩)
  · refine ⟨_, _, s.H, rfl, rfl, ?_, hk1 e h1 h2⟩
    simp [backH, setAll]
  · have hm := h2.mapR (linkOf s.H.length [(hb, 0, false)])
    have e1 : renC (linkOf s.H.length [(hb, 0, false)]) (.lst 2 ks) = .lst (s.H.length + 1) ks := rfl
    rw [e1] at hm
    refine ⟨_, .tup [.ptr s.H.length 0, .int .i64 0], s.H ++ [.box 147 (dc.map (renC (linkOf s.H.length [(hb, 0, false)]))), .lst 3 1 (A.ints .i64 (syA l 16))], rfl, rfl, ?_, ?_⟩
    · rw [← hA]
      simp only [backH, List.map_cons, List.map_nil, renCk, renA hA, setAll]
      rfl
    · have := hk2 (lgA l 16) (syA l 16) tb _ ks h1 (DecQ_of h1 h5) (by rw [len1_eq]; exact hm) h3
      rw [len1_eq, apd_eq] at this
      exact this

theorem call_cnext (hC : C = CallX prog) (hA : A = R) {l : List Int} {lg : Int} {sy tb : List Int} {ks hd hs hb hr m p a b : Nat} {dc' : List SV} {xs : List Int} {at_ hold nb er : Int} (hQ : DecQ l lg sy tb) (hD' : IsDC dc' true lg (cvec l) (fvec (cvec l)) (.lst hs ks) tb) (hks : ks = sy.length)
    (hx : RX xs m) (hF : RF xs p a b at_ hold nb) (hne : hb ≠ hr ∧ hb ≠ hd ∧ hb ≠ hs ∧ hr ≠ hd ∧ hr ≠ hs) (h4 : cellsAt s.H hd 0 1061 = some dc') (h5 : cellsAt s.H hs 0 ks = some (A.ints .i64 sy))
    (h6 : s.H[hb]? = some (.box 101 [.lst hr m, .int .i64 at_, .int .u64 hold, .int .i64 nb, .int .i64 er, .bool true])) (h7 : s.H[hr]? = some (.lst 5 1 (A.ints .u8 xs)))
    (hk : ∀ (a b p' : Nat) (at_ hold nb y e : Int), RF xs p' a b at_ hold nb → NextQ l lg xs p er y e p' → κ [hb, hr] (.tup [.int .i64 y, .int .i64 e]) (set1 (set1 s.H hb (.box 101 [.lst hr m, .int .i64 at_, .int .u64 hold, .int .i64 nb, .int .i64 er, .bool true])) hr (.lst 5 1 (A.ints .u8 xs)))) : C 74 [.ptr hd 0, .ptr hb 0] s κ := by
  have hD := hD'.setS (.lst 1 ks)
  have hS := s_cnext l lg sy tb ks _ xs m p a b at_ hold nb er hQ hD hks hx hF
  rw [← hA] at hS
  obtain ⟨m1, m2, m3⟩ := matchD (g := linkOf s.H.length [(hd, 0, false), (hs, 0, false), (hb, 0, true), (hr, 0, true)]) (M := 4) hD hD' rfl (by omega) h4
  refine cal_of hC hS [(hd, 0, false), (hs, 0, false), (hb, 0, true), (hr, 0, true)] ?_ ⟨m1, m2, m3, hLtsA hA .., zOksA hA .., ?_, rfl, ⟨(show 3 < 4 by omega), trivial, trivial, trivial, trivial, trivial, trivial⟩, ⟨rfl, trivial, trivial, trivial, trivial, trivial, trivial⟩, h6, rfl, hLtsA hA .., zOksA hA .., ?_, trivial⟩ ⟨⟨(show 0 < 4 by omega), trivial, rfl⟩, ⟨(show 2 < 4 by omega), trivial, rfl⟩, trivial⟩ ?_
  · simp only [lkOk, List.mem_cons, List.not_mem_nil, or_false, forall_eq_or_imp, forall_eq]
    have := hne
    simp
    omega
  · rw [renA hA, A_ints_len hA, ← hks]; exact h5
  · rw [renCk, renA hA]; exact h7
  rintro _ _ ⟨a2, b2, p', at2, hold2, nb2, y, e, h1, h2, rfl, rfl⟩
  refine ⟨_, _, (s.H.set hb (.box 101 [.lst hr m, .int .i64 at2, .int .u64 hold2, .int .i64 nb2, .int .i64 er, .bool true])).set hr (.lst 5 1 (A.ints .u8 xs)), rfl, rfl, ?_, ?_⟩
  · simp only [backH, List.map_cons, List.map_nil, renCk, renA hA, setAll, List.length_cons, List.length_nil, List.drop_succ_cons, List.drop_zero, List.append_nil]
    rfl
  · have := hk a2 b2 p' at2 hold2 nb2 y e h1 h2
    rw [set1_eq, set1_eq] at this
    exact this

theorem call_samei (hC : C = CallX prog) (hA : A = R) {l : List Int} {ha hb ln : Nat} (hln : ln = l.length) (hl : l.length ≤ 1000000) (h4 : cellsAt s.H ha 0 ln = some (A.ints .i64 l)) (h5 : cellsAt s.H hb 0 ln = some (A.ints .i64 l)) {av : List SV} (hav : argsOk 2 (linkOf s.H.length [(ha, 0, false), (hb, 0, false)]) [.sl 0 0 ln false, .sl 1 0 ln false] av)
    (hk : κ [] (.bool true) s.H) : C 18 av s κ := by
  have hS := s_samei l ln hln hl
  rw [← hA] at hS
  refine cal_vw hC hS [(ha, 0, false), (hb, 0, false)] rfl ⟨hLtsA hA .., zOksA hA .., ?_, hLtsA hA .., zOksA hA .., ?_, trivial⟩ hav rfl hk
  · rw [renA hA, A_ints_len hA, ← hln]; exact h4
  · rw [renA hA, A_ints_len hA, ← hln]; exact h5
end

/-! ### A decoder's longest word; none -/
end Go.Sx

/- dyn: what is read, plainly: the model. -/
set_option maxRecDepth 100000
set_option maxHeartbeats 4000000
set_option linter.unusedVariables false
set_option linter.unusedSimpArgs false
namespace Go.Sx
open Go.Proofs.Tryd

theorem NextQ_det1 {l : List Int} (hL : Lens l) {lg : Int} {xs : List Int} {p : Nat} {er y e y2 e2 : Int} {p' p2 : Nat} (h : NextQ l lg xs p er y e p') (h2 : NextQ l lg xs p er y2 e2 p2) : y2 = y ∧ e2 = e ∧ p2 = p' := by
  rcases h with h | ⟨h0, ⟨s, h3, h4, h5, h6, h7⟩ | ⟨h3, h4, h5, h6⟩⟩ <;> rcases h2 with k | ⟨k0, ⟨s2, k3, k4, k5, k6, k7⟩ | ⟨k3, k4, k5, k6⟩⟩
  · exact ⟨by omega, by omega, by omega⟩
  · omega
  · omega
  · omega
  · have e : s = s2 := st_uniq hL h3 k3
    subst e
    exact ⟨by omega, by omega, by omega⟩
  · have := k3 s h3; omega
  · omega
  · have := h3 s2 k3; omega
  · exact ⟨by omega, by omega, by omega⟩
/-- A symbol by lengths: which, an error, where it ends. -/
noncomputable def nxM (l xs : List Int) (p : Nat) : Int × Int × Nat :=
  open Classical in if h : ∃ t : Int × Int × Nat, NextQ l (mxL (codesL l)) xs p 0 t.1 t.2.1 t.2.2 then h.choose else (-1, 7, p)
theorem nxM_of {l xs : List Int} (hL : Lens l) {p p' : Nat} {y e : Int} (h : NextQ l (mxL (codesL l)) xs p 0 y e p') : nxM l xs p = (y, e, p') := by
  have hx : ∃ t : Int × Int × Nat, NextQ l (mxL (codesL l)) xs p 0 t.1 t.2.1 t.2.2 := ⟨(y, e, p'), h⟩
  unfold nxM
  rw [dif_pos hx]
  obtain ⟨h1, h2, h3⟩ := NextQ_det1 hL h hx.choose_spec
  exact Prod.ext h1 (Prod.ext h2 h3)
theorem NextQ_ok {l : List Int} {lg : Int} {xs : List Int} {p p' : Nat} {y e : Int} (hL : Lens l) (h : NextQ l lg xs p 0 y e p') (he : e = 0) : 0 ≤ y ∧ y < l.length ∧ p + 1 ≤ p' ∧ p' ≤ 8 * xs.length := by
  rcases h with h | ⟨h0, ⟨s, h3, h4, h5, h6, h7⟩ | ⟨h3, h4, h5, h6⟩⟩
  · omega
  · have h8 := h3.1
    have h9 := h3.2.1
    omega
  · omega
/-- A symbol of the third code, with what stands behind it: a length, how often. -/
def rowM (xs : List Int) (p : Nat) (y last : Int) : Except Int (Int × Int × Nat) :=
  if y = 16 then (if 8 * xs.length < p + 2 then .error 3 else if last < 0 then .error 7 else .ok (last, 3 + cut (V xs) p 2, p + 2))
  else if y = 17 then (if 8 * xs.length < p + 3 then .error 3 else .ok (0, 3 + cut (V xs) p 3, p + 3))
  else if y = 18 then (if 8 * xs.length < p + 7 then .error 3 else .ok (0, 11 + cut (V xs) p 7, p + 7))
  else .ok (y, 1, p)
def lastI (o : List Int) : Int := if o = [] then -1 else o.getD (o.length - 1) 0
/-- So many lengths. -/
noncomputable def liM (l xs : List Int) (n : Int) : Nat → Nat → List Int → Except Int (List Int × Nat)
  | 0, p, o => .ok (o, p)
  | f + 1, p, o =>
    if (o.length : Int) < n then
      if (nxM l xs p).2.1 ≠ 0 then .error (nxM l xs p).2.1
      else match rowM xs (nxM l xs p).2.2 (nxM l xs p).1 (lastI o) with
        | .error e => .error e
        | .ok (x, k, p2) => if n - o.length < k then .error 4 else liM l xs n f p2 (o ++ List.replicate k.toNat x)
    else .ok (o, p)
def ordD : List Int := [16, 17, 18, 0, 8, 7, 9, 6, 10, 5, 11, 4, 12, 3, 13, 2, 14, 1, 15]
/-- The third code's lengths, i of them looked at. -/
def thS (xs : List Int) (q n : Nat) : Nat → List Int
  | 0 => List.replicate 19 0
  | i + 1 => if i < n then (thS xs q n i).set (ordD.getD i 0).toNat (cut (V xs) (q + 3 * i) 3) else thS xs q n i
/-- Both lists. -/
noncomputable def rdD (xs : List Int) (p : Nat) (large : Bool) : Except Int (List Int × List Int × Nat) :=
  open Classical in
  if 8 * xs.length < p + 14 then .error 3
  else if 286 < 257 + cut (V xs) p 5 ∨ mosD large < 1 + cut (V xs) (p + 5) 5 then .error 4
  else if 8 * xs.length < p + 14 + 3 * (4 + cut (V xs) (p + 10) 4).toNat then .error 3
  else if ¬ ChkQ (thS xs (p + 14) (4 + cut (V xs) (p + 10) 4).toNat 19) 1 then .error 6
  else match liM (thS xs (p + 14) (4 + cut (V xs) (p + 10) 4).toNat 19) xs (257 + cut (V xs) p 5 + (1 + cut (V xs) (p + 5) 5)) (257 + cut (V xs) p 5 + (1 + cut (V xs) (p + 5) 5)).toNat (p + 14 + 3 * (4 + cut (V xs) (p + 10) 4).toNat) [] with
    | .error e => .error e
    | .ok (o, p2) => if RgP (o.take (257 + cut (V xs) p 5).toNat) (o.drop (257 + cut (V xs) p 5).toNat) large then .ok (o.take (257 + cut (V xs) p 5).toNat, o.drop (257 + cut (V xs) p 5).toNat, p2) else .error 6

theorem lastI_app (o : List Int) (k : Nat) (x : Int) (hk : 0 < k) : lastI (o ++ List.replicate k x) = x := by
  unfold lastI
  have hne : o ++ List.replicate k x ≠ [] := fun h => by
    have := congrArg List.length h
    simp at this
    omega
  rw [if_neg hne, List.getD, List.getElem?_append_right (by simp; omega), List.getElem?_replicate, if_pos (by simp; omega)]
  rfl
theorem thS_len (xs : List Int) (q n : Nat) : ∀ i, (thS xs q n i).length = 19
  | 0 => List.length_replicate ..
  | i + 1 => by
    rw [thS]
    split
    · rw [List.length_set]; exact thS_len xs q n i
    · exact thS_len xs q n i
theorem rowM_ok {xs : List Int} {p p2 : Nat} {y last x k : Int} (h : rowM xs p y last = .ok (x, k, p2)) : 1 ≤ k ∧ k ≤ 138 ∧ p ≤ p2 := by
  unfold rowM at h
  have c2 := cut_lt (V xs) p 2
  have c3 := cut_lt (V xs) p 3
  have c7 := cut_lt (V xs) p 7
  have e2 : (2 : Int) ^ 2 = 4 := rfl
  have e3 : (2 : Int) ^ 3 = 8 := rfl
  have e7 : (2 : Int) ^ 7 = 128 := rfl
  have n2 : 0 ≤ cut (V xs) p 2 := by unfold cut; exact Int.emod_nonneg _ (by decide)
  have n3 : 0 ≤ cut (V xs) p 3 := by unfold cut; exact Int.emod_nonneg _ (by decide)
  have n7 : 0 ≤ cut (V xs) p 7 := by unfold cut; exact Int.emod_nonneg _ (by decide)
  split at h
  · split at h
    · cases h
    · split at h
      · cases h
      · cases h; omega
  · split at h
    · split at h
      · cases h
      · cases h; omega
    · split at h
      · split at h
        · cases h
        · cases h; omega
      · cases h; omega
end Go.Sx

/- dyn: row, lists: contracts. -/
set_option maxRecDepth 100000
set_option maxHeartbeats 4000000
set_option linter.unusedVariables false
set_option linter.unusedSimpArgs false
namespace Go.Sx
open Go.Proofs.Tryd

/-- Bits are read where nothing was wrong. -/
theorem bits0 {xs : List Int} {p p' : Nat} {er n er' y : Int} (he : er = 0) (hn : 0 ≤ n ∧ n ≤ 32) (h : (er ≠ 0 ∧ y = 0 ∧ er' = er ∧ p' = p) ∨ (er = 0 ∧ (n < 0 ∨ 32 < n) ∧ y = 0 ∧ er' = 2 ∧ p' = p) ∨ (er = 0 ∧ 0 ≤ n ∧ n ≤ 32 ∧ 8 * (xs.length : Int) < p + n ∧ y = 0 ∧ er' = 3 ∧ p' = p) ∨
      (er = 0 ∧ 0 ≤ n ∧ n ≤ 32 ∧ p + n ≤ 8 * (xs.length : Int) ∧ y = cut (V xs) p n.toNat ∧ er' = 0 ∧ p' = p + n.toNat)) :
    (8 * xs.length < p + n.toNat ∧ y = 0 ∧ er' = 3 ∧ p' = p) ∨ (p + n.toNat ≤ 8 * xs.length ∧ y = cut (V xs) p n.toNat ∧ er' = 0 ∧ p' = p + n.toNat) := by
  rcases h with h | h | h | h
  · omega
  · omega
  · exact .inl ⟨by omega, h.2.2.2.2⟩
  · exact .inr ⟨by omega, h.2.2.2.2⟩
/-- ... where something was. -/
theorem bits1 {xs : List Int} {p p' : Nat} {er n er' y : Int} (he : er ≠ 0) (h : (er ≠ 0 ∧ y = 0 ∧ er' = er ∧ p' = p) ∨ (er = 0 ∧ (n < 0 ∨ 32 < n) ∧ y = 0 ∧ er' = 2 ∧ p' = p) ∨ (er = 0 ∧ 0 ≤ n ∧ n ≤ 32 ∧ 8 * (xs.length : Int) < p + n ∧ y = 0 ∧ er' = 3 ∧ p' = p) ∨
      (er = 0 ∧ 0 ≤ n ∧ n ≤ 32 ∧ p + n ≤ 8 * (xs.length : Int) ∧ y = cut (V xs) p n.toNat ∧ er' = 0 ∧ p' = p + n.toNat)) : y = 0 ∧ er' = er ∧ p' = p := by
  rcases h with h | h | h | h
  · exact h.2
  · omega
  · omega
  · omega
theorem cut_b (X : Int) (p : Nat) {n : Nat} : 0 ≤ cut X p n ∧ cut X p n < 2 ^ n := ⟨by unfold cut; exact Int.emod_nonneg _ (Int.ne_of_gt (pow_pos2 n)), cut_lt X p n⟩

/-- A reader's chunks. -/
def RdH (A : Ar) (m : Nat) (at_ hold nb er : Int) (xs : List Int) : List Ck := [.box 101 [.lst 1 m, .int .i64 at_, .int .u64 hold, .int .i64 nb, .int .i64 er, .bool true], .lst 5 1 (A.ints .u8 xs)]
def RwQ (xs : List Int) (p : Nat) (y last x k e : Int) (p' : Nat) (er' : Int) : Prop := (e ≠ 0 ∧ x = 0 ∧ k = 0 ∧ rowM xs p y last = .error e) ∨ (e = 0 ∧ er' = 0 ∧ rowM xs p y last = .ok (x, k, p'))
theorem s_drow (xs : List Int) (m p a b : Nat) (at_ hold nb y last : Int) (hx : RX xs m) (hF : RF xs p a b at_ hold nb) (hy : 0 ≤ y) :
    Spec prog 83 [.ptr 0 0, .int .i64 y, .int .i64 last] (RdH R m at_ hold nb 0 xs) (fun r H => ∃ (a b p' : Nat) (at_ hold nb er' x k e : Int), RF xs p' a b at_ hold nb ∧ RwQ xs p y last x k e p' er' ∧ r = .tup [.int .i64 x, .int .i64 k, .int .i64 e] ∧ H = RdH R m at_ hold nb er' xs) := by
  refine Spec_of_kX (D := fun i => (0, [])) (ks := [0, 1, 2, 6, 7, 8, 9, 10, 12]) tok mixed (fn := f83) rfl rfl rfl (by kernel_rfl) (N := 43) rfl (rs := [.tmp 6, .tmp 7, .tmp 8]) rfl (Nat.le_of_ble_eq_true rfl) fun A C Kp E ag L q hA hC hK hE hag hL hq => ?_
  rw [← hA]
  unfold RdH
  cbv
  (try simp only [ncast] at *)
  refine ifB_intro (fun h => ?_) (fun h => ?_)
  · have h1 := h
    (try simp only [wA hA] at h1)
    (try rw [h]); clear h
    cbv
    (try simp only [ncast] at *)
    refine call_bits hC hA (hb := 0) (hr := 1) hx hF (by decide) rfl rfl fun a2 b2 p2 at2 hold2 nb2 er2 z hF2 hB0 => ?_
    have hB1 := bits0 rfl (by omega) hB0
    clear hB0
    rcases hB1 with ⟨hB, hz, he2, hp2⟩ | ⟨hB, hz, he2, hp2⟩
    · subst he2
      have hro : rowM xs p y last = .error 3 := by
        have hB : 8 * xs.length < p + 2 := hB
        unfold rowM
        rw [if_pos h1]
        rw [if_pos hB]
      clear hB hz hp2
      cbv
      (try simp only [ncast] at *)
      refine call_err hC (hb := 0) (hr := 1) rfl (by show 1 < 2; omega) ?_
      cbv
      (try simp only [ncast] at *)
      refine ifT (by simp only [neqA hA]; simp) fun h => ?_
      (try rw [h]); clear h
      cbv
      (try simp only [ncast] at *)
      refine call_err hC (hb := 0) (hr := 1) rfl (by show 1 < 2; omega) ?_
      cbv
      (try simp only [ncast] at *)
      subst hA hq
      exact ⟨a2, b2, p2, at2, hold2, nb2, 3, 0, 0, 3, hF2, .inl ⟨by omega, rfl, rfl, hro⟩, rfl, rfl⟩
    subst he2
    have hB : p + 2 ≤ 8 * xs.length := hB
    have hz : z = cut (V xs) p 2 := hz
    have hp2 : p2 = p + 2 := hp2
    have hcb := cut_b (V xs) p (n := 2)
    rw [← hz] at hcb
    have hcb : 0 ≤ z ∧ z < 128 := by
      have : (2 : Int) ^ 2 ≤ 2 ^ 7 := by exact_mod_cast Nat.pow_le_pow_right (by decide) (by decide)
      have e7 : (2 : Int) ^ 7 = 128 := rfl
      omega
    have hro : ¬ last < 0 ∨ y ≠ 16 → rowM xs p y last = .ok (last, 3 + z, p2) := fun hl => by
      unfold rowM
      rw [if_pos h1]
      rw [if_neg (by omega)]
      rw [if_neg (by omega)]
      rw [hz, hp2]
    clear hz hp2
    cbv
    (try simp only [ncast] at *)
    refine call_err hC (hb := 0) (hr := 1) rfl (by show 1 < 2; omega) ?_
    cbv
    (try simp only [ncast] at *)
    refine ifF (by simp only [neqA hA]; simp) fun h => ?_
    (try rw [h]); clear h
    cbv
    (try simp only [ncast] at *)
    have e1 : A.wrap .i64 z = z := by rw [wrapA hA, wrap64 (by omega)]
    have e2 : A.bin .add .i64 3 z = 3 + z := by rw [addA hA, wrap64 (by omega)]
    simp only [e1, e2]
    refine ifB_intro (fun h => ?_) (fun h => ?_)
    · have h2 := h
      (try simp only [wA hA] at h2)
      (try rw [h]); clear h
      cbv
      (try simp only [ncast] at *)
      subst hA hq
      refine ⟨a2, b2, p2, at2, hold2, nb2, 0, 0, 0, 7, hF2, .inl ⟨by omega, rfl, rfl, ?_⟩, rfl, rfl⟩
      unfold rowM
      rw [if_pos h1, if_neg (by omega), if_pos h2]
    · have h2 := h
      (try simp only [wA hA] at h2)
      (try rw [h]); clear h
      cbv
      (try simp only [ncast] at *)
      subst hA hq
      exact ⟨a2, b2, p2, at2, hold2, nb2, 0, last, (3+z), 0, hF2, .inr ⟨rfl, rfl, hro (by omega)⟩, rfl, rfl⟩
  · have h1 := h
    (try simp only [wA hA] at h1)
    (try rw [h]); clear h
    cbv
    (try simp only [ncast] at *)
    refine ifB_intro (fun h => ?_) (fun h => ?_)
    · have h3 := h
      (try simp only [wA hA] at h3)
      (try rw [h]); clear h
      cbv
      (try simp only [ncast] at *)
      refine call_bits hC hA (hb := 0) (hr := 1) hx hF (by decide) rfl rfl fun a2 b2 p2 at2 hold2 nb2 er2 z hF2 hB0 => ?_
      have hB1 := bits0 rfl (by omega) hB0
      clear hB0
      rcases hB1 with ⟨hB, hz, he2, hp2⟩ | ⟨hB, hz, he2, hp2⟩
      · subst he2
        have hro : rowM xs p y last = .error 3 := by
          have hB : 8 * xs.length < p + 3 := hB
          unfold rowM
          rw [if_neg h1, if_pos h3]
          rw [if_pos hB]
        clear hB hz hp2
        cbv
        (try simp only [ncast] at *)
        refine call_err hC (hb := 0) (hr := 1) rfl (by show 1 < 2; omega) ?_
        cbv
        (try simp only [ncast] at *)
        refine ifT (by simp only [neqA hA]; simp) fun h => ?_
        (try rw [h]); clear h
        cbv
        (try simp only [ncast] at *)
        refine call_err hC (hb := 0) (hr := 1) rfl (by show 1 < 2; omega) ?_
        cbv
        (try simp only [ncast] at *)
        subst hA hq
        exact ⟨a2, b2, p2, at2, hold2, nb2, 3, 0, 0, 3, hF2, .inl ⟨by omega, rfl, rfl, hro⟩, rfl, rfl⟩
      subst he2
      have hB : p + 3 ≤ 8 * xs.length := hB
      have hz : z = cut (V xs) p 3 := hz
      have hp2 : p2 = p + 3 := hp2
      have hcb := cut_b (V xs) p (n := 3)
      rw [← hz] at hcb
      have hcb : 0 ≤ z ∧ z < 128 := by
        have : (2 : Int) ^ 3 ≤ 2 ^ 7 := by exact_mod_cast Nat.pow_le_pow_right (by decide) (by decide)
        have e7 : (2 : Int) ^ 7 = 128 := rfl
        omega
      have hro : ¬ last < 0 ∨ y ≠ 16 → rowM xs p y last = .ok (0, 3 + z, p2) := fun hl => by
        unfold rowM
        rw [if_neg h1, if_pos h3]
        rw [if_neg (by omega)]
        skip
        rw [hz, hp2]
      clear hz hp2
      cbv
      (try simp only [ncast] at *)
      refine call_err hC (hb := 0) (hr := 1) rfl (by show 1 < 2; omega) ?_
      cbv
      (try simp only [ncast] at *)
      refine ifF (by simp only [neqA hA]; simp) fun h => ?_
      (try rw [h]); clear h
      cbv
      (try simp only [ncast] at *)
      have e1 : A.wrap .i64 z = z := by rw [wrapA hA, wrap64 (by omega)]
      have e2 : A.bin .add .i64 3 z = 3 + z := by rw [addA hA, wrap64 (by omega)]
      simp only [e1, e2]
      refine ifF (by simp only [lssA hA]; simp) fun h => ?_
      (try rw [h]); clear h
      cbv
      (try simp only [ncast] at *)
      subst hA hq
      exact ⟨a2, b2, p2, at2, hold2, nb2, 0, 0, (3+z), 0, hF2, .inr ⟨rfl, rfl, hro (by omega)⟩, rfl, rfl⟩
    · have h3 := h
      (try simp only [wA hA] at h3)
      (try rw [h]); clear h
      cbv
      (try simp only [ncast] at *)
      refine ifB_intro (fun h => ?_) (fun h => ?_)
      · have h4 := h
        (try simp only [wA hA] at h4)
        (try rw [h]); clear h
        cbv
        (try simp only [ncast] at *)
        refine call_bits hC hA (hb := 0) (hr := 1) hx hF (by decide) rfl rfl fun a2 b2 p2 at2 hold2 nb2 er2 z hF2 hB0 => ?_
        have hB1 := bits0 rfl (by omega) hB0
        clear hB0
        rcases hB1 with ⟨hB, hz, he2, hp2⟩ | ⟨hB, hz, he2, hp2⟩
        · subst he2
          have hro : rowM xs p y last = .error 3 := by
            have hB : 8 * xs.length < p + 7 := hB
            unfold rowM
            rw [if_neg h1, if_neg h3, if_pos h4]
            rw [if_pos hB]
          clear hB hz hp2
          cbv
          (try simp only [ncast] at *)
          refine call_err hC (hb := 0) (hr := 1) rfl (by show 1 < 2; omega) ?_
          cbv
          (try simp only [ncast] at *)
          refine ifT (by simp only [neqA hA]; simp) fun h => ?_
          (try rw [h]); clear h
          cbv
          (try simp only [ncast] at *)
          refine call_err hC (hb := 0) (hr := 1) rfl (by show 1 < 2; omega) ?_
          cbv
          (try simp only [ncast] at *)
          subst hA hq
          exact ⟨a2, b2, p2, at2, hold2, nb2, 3, 0, 0, 3, hF2, .inl ⟨by omega, rfl, rfl, hro⟩, rfl, rfl⟩
        subst he2
        have hB : p + 7 ≤ 8 * xs.length := hB
        have hz : z = cut (V xs) p 7 := hz
        have hp2 : p2 = p + 7 := hp2
        have hcb := cut_b (V xs) p (n := 7)
        rw [← hz] at hcb
        have hcb : 0 ≤ z ∧ z < 128 := by
          have : (2 : Int) ^ 7 ≤ 2 ^ 7 := by exact_mod_cast Nat.pow_le_pow_right (by decide) (by decide)
          have e7 : (2 : Int) ^ 7 = 128 := rfl
          omega
        have hro : ¬ last < 0 ∨ y ≠ 16 → rowM xs p y last = .ok (0, 11 + z, p2) := fun hl => by
          unfold rowM
          rw [if_neg h1, if_neg h3, if_pos h4]
          rw [if_neg (by omega)]
          skip
          rw [hz, hp2]
        clear hz hp2
        cbv
        (try simp only [ncast] at *)
        refine call_err hC (hb := 0) (hr := 1) rfl (by show 1 < 2; omega) ?_
        cbv
        (try simp only [ncast] at *)
        refine ifF (by simp only [neqA hA]; simp) fun h => ?_
        (try rw [h]); clear h
        cbv
        (try simp only [ncast] at *)
        have e1 : A.wrap .i64 z = z := by rw [wrapA hA, wrap64 (by omega)]
        have e2 : A.bin .add .i64 11 z = 11 + z := by rw [addA hA, wrap64 (by omega)]
        simp only [e1, e2]
        refine ifF (by simp only [lssA hA]; simp) fun h => ?_
        (try rw [h]); clear h
        cbv
        (try simp only [ncast] at *)
        subst hA hq
        exact ⟨a2, b2, p2, at2, hold2, nb2, 0, 0, (11+z), 0, hF2, .inr ⟨rfl, rfl, hro (by omega)⟩, rfl, rfl⟩
      · have h4 := h
        (try simp only [wA hA] at h4)
        (try rw [h]); clear h
        cbv
        (try simp only [ncast] at *)
        refine call_err hC (hb := 0) (hr := 1) rfl (by show 1 < 2; omega) ?_
        cbv
        (try simp only [ncast] at *)
        refine ifF (by simp only [neqA hA]; simp) fun h => ?_
        (try rw [h]); clear h
        cbv
        (try simp only [ncast] at *)
        refine ifF (by simp only [lssA hA]; simp; omega) fun h => ?_
        (try rw [h]); clear h
        cbv
        (try simp only [ncast] at *)
        subst hA hq
        refine ⟨a, b, p, at_, hold, nb, 0, y, 1, 0, hF, .inr ⟨rfl, rfl, ?_⟩, rfl, rfl⟩
        unfold rowM
        rw [if_neg h1, if_neg h3, if_neg h4]
end Go.Sx

/- dyn: lists: the contract. -/
set_option maxRecDepth 100000
set_option maxHeartbeats 4000000
set_option linter.unusedVariables false
set_option linter.unusedSimpArgs false
namespace Go.Sx
open Go.Proofs.Tryd

section
variable {A : Ar} {C : CallT} {xs : List Int} {m p a b : Nat} {at_ hold nb y last : Int} {hb hr : Nat} {s : St} {κ : List Nat → SV → List Ck → Prop}
theorem call_drow (hC : C = CallX prog) (hA : A = R) (hx : RX xs m) (hF : RF xs p a b at_ hold nb) (hy : 0 ≤ y) (hne : hb ≠ hr) (h4 : s.H[hb]? = some (.box 101 [.lst hr m, .int .i64 at_, .int .u64 hold, .int .i64 nb, .int .i64 0, .bool true])) (h5 : s.H[hr]? = some (.lst 5 1 (A.ints .u8 xs)))
    (hk : ∀ (a b p' : Nat) (at_ hold nb er' x k e : Int), RF xs p' a b at_ hold nb → RwQ xs p y last x k e p' er' →
      κ [hb, hr] (.tup [.int .i64 x, .int .i64 k, .int .i64 e]) (set1 (set1 s.H hb (.box 101 [.lst hr m, .int .i64 at_, .int .u64 hold, .int .i64 nb, .int .i64 er', .bool true])) hr (.lst 5 1 (A.ints .u8 xs)))) : C 83 [.ptr hb 0, .int .i64 y, .int .i64 last] s κ := by
  have hS := s_drow xs m p a b at_ hold nb y last hx hF hy
  rw [← hA] at hS
  refine cal_of hC hS [(hb, 0, true), (hr, 0, true)] ⟨by simp [hne], by simp, trivial⟩ (matchH2 hA ⟨(show 1 < 2 by omega), trivial, trivial, trivial, trivial, trivial, trivial⟩ ⟨rfl, trivial, trivial, trivial, trivial, trivial, trivial⟩ rfl h4 h5) ⟨⟨(show 0 < 2 by omega), trivial, rfl⟩, ⟨trivial, trivial, rfl⟩, ⟨trivial, trivial, rfl⟩, trivial⟩ ?_
  rintro _ _ ⟨a, b, p', at_, hold, nb, er', x, k, e, hF', hQ, rfl, rfl⟩
  refine ⟨_, _, _, rfl, rfl, backH2 hA rfl, ?_⟩
  have := hk a b p' at_ hold nb er' x k e hF' hQ
  rw [set1_eq, set1_eq] at this
  exact this
end

theorem cells_vwD {H : List Ck} {j n : Nat} {cs : List SV} (hc : H[j]? = some (.vw cs)) (hn : cs.length = n) : cellsAt H j 0 n = some cs := by
  rw [cellsAt_eq hc (by show 0 + n ≤ cs.length; omega), ← hn]
  show some ((cs.drop 0).take cs.length) = _
  rw [List.drop_zero, List.take_length]
theorem liM_step {l xs : List Int} {n : Int} {f p : Nat} {o : List Int} (hf : 0 < f) (h : (o.length : Int) < n) : liM l xs n f p o = if (nxM l xs p).2.1 ≠ 0 then .error (nxM l xs p).2.1
      else match rowM xs (nxM l xs p).2.2 (nxM l xs p).1 (lastI o) with
        | .error e => .error e
        | .ok (x, k, p2) => if n - o.length < k then .error 4 else liM l xs n (f - 1) p2 (o ++ List.replicate k.toNat x) := by
  obtain ⟨g, rfl⟩ : ∃ g, f = g + 1 := ⟨f - 1, by omega⟩
  rw [liM, if_pos h]
  rfl
theorem liM_end {l xs : List Int} {n : Int} {f p : Nat} {o : List Int} (h : n ≤ (o.length : Int)) : liM l xs n f p o = .ok (o, p) := by
  cases f with
  | zero => rfl
  | succ f => rw [liM, if_neg (by omega)]
def LiQ (l xs : List Int) (n : Int) (p : Nat) (o : List Int) (e : Int) (p' : Nat) (er' : Int) : Prop := (e ≠ 0 ∧ o = [] ∧ liM l xs n n.toNat p [] = .error e) ∨ (e = 0 ∧ er' = 0 ∧ (o.length : Int) = n ∧ liM l xs n n.toNat p [] = .ok (o, p'))
theorem s_dlists (l : List Int) (lg : Int) (sy tb : List Int) (ks : Nat) (dc : List SV) (xs : List Int) (m p a b : Nat) (at_ hold nb n : Int) (hn : 0 ≤ n ∧ n ≤ 1000) (hQ : DecQ l lg sy tb) (hD : IsDC dc true lg (cvec l) (fvec (cvec l)) (.lst 3 ks) tb) (hks : ks = sy.length) (hx : RX xs m) (hF : RF xs p a b at_ hold nb) :
    Spec prog 71 [.ptr 0 0, .ptr 2 0, .int .i64 n] (RdH R m at_ hold nb 0 xs ++ [.vw dc, .vw (R.ints .i64 sy)]) (fun r H => ∃ (a b p' k : Nat) (at_ hold nb er' e : Int) (o : List Int), RF xs p' a b at_ hold nb ∧ LiQ l xs n p o e p' er' ∧ k = o.length ∧ r = .tup [.lst 4 k, .int .i64 e] ∧
      H = RdH R m at_ hold nb er' xs ++ [.vw dc, .vw (R.ints .i64 sy), .lst 3 1 (R.ints .i64 o)]) := by
  refine Spec_of_kF (D := fun i => (0, [])) (ks := [0, 1, 2, 6, 7, 8, 9, 10, 11, 12, 13, 44, 45]) tok mixed (fn := f71) rfl rfl rfl (by kernel_rfl) (N := 54) rfl (rs := [.tmp 6, .tmp 7]) rfl (Nat.le_of_ble_eq_true rfl) fun A C Kp E ag L q hA hC hK hE hag hL hq => ?_
  rw [← hA]
  unfold RdH
  cbv
  obtain ⟨M0, hM0⟩ : ∃ M, M = liM l xs n n.toNat p [] := ⟨_, rfl⟩
  rw [hL]
  refine ⟨fun kk s => ∃ (f p a b k : Nat) (at_ hold nb last : Int) (o : List Int), M0 = liM l xs n f p o ∧ n ≤ f + o.length ∧ (o.length : Int) ≤ n ∧ last = lastI o ∧ k = o.length ∧ RF xs p a b at_ hold nb ∧ kk = (n - o.length).toNat ∧
      s = ⟨[(0, .ptr 0 0), (1, .ptr 2 0), (2, .int .i64 n), (8, .lst 4 k), (9, .int .i64 last)], [.box 101 [.lst 1 m, .int .i64 at_, .int .u64 hold, .int .i64 nb, .int .i64 0, .bool true], .lst 5 1 (A.ints .u8 xs), .vw dc, .vw (A.ints .i64 sy), .lst 3 1 (A.ints .i64 o)]⟩,
    ⟨_, ⟨[(0, .ptr 0 0), (1, .ptr 2 0), (2, .int .i64 n), (8, .lst 4 0), (9, .int .i64 (-1))], [.box 101 [.lst 1 m, .int .i64 at_, .int .u64 hold, .int .i64 nb, .int .i64 0, .bool true], .lst 5 1 (A.ints .u8 xs), .vw dc, .vw (A.ints .i64 sy), .lst 3 1 (A.ints .i64 [])]⟩, ?_, n.toNat, p, a, b, 0, at_, hold, nb, -1, [], hM0, by simp; omega, by simp; omega, rfl, rfl, hF, rfl, rfl⟩, ?_⟩
  · subst hA
    refine (Sub_nilT (i := 8) 3 1 rfl).trans ?_
    have dc0 : ∀ (N : Nat) (H1 : List Ck), 3 < N → H1[2]? = some (.vw dc) → subC 4 N [0, 1, 2, 3, 4] H1 2 2 (.vw dc) := fun N H1 hN h => dc_v hD hN rfl h
    exact Sc [0, 1, 2, 3, 4] (by repeat' (first | exact dc0 _ _ (Nat.le_of_ble_eq_true rfl) rfl | exact trivial | exact fun _ => rfl | exact fun h => absurd h (by simp) | exact subC_ints rfl | refine And.intro ?_ ?_ | rfl | (simp [subH_nil, hLts, hLt, renCk, renC, sg, Ck.cells, R_ints_ren, R_ints_hLts]; done)))
  clear hF
  rintro kk _ ⟨f, p1, a1, b1, k, at1, hold1, nb1, last, o, hM, hf, hol, hla, hk, hF, hkk, rfl⟩
  have hon : (o.length : Int) ≤ 1000 := by omega
  obtain ⟨kI, hkI⟩ : ∃ i : Int, i = o.length := ⟨_, rfl⟩
  have ek : A.nat k = kI := by rw [natA hA, hk, hkI]
  cbv
  (try simp only [ncast] at *)
  simp only [ek]
  refine ifB_intro (fun h => ?_) (fun h => ?_)
  · have hlt := h
    (try simp only [wA hA] at hlt)
    (try rw [h]); clear h
    cbv
    (try simp only [ncast] at *)
    have hstep := liM_step (l := l) (xs := xs) (n := n) (f := f) (p := p1) (o := o) (by omega) (by omega)
    rw [← hM] at hstep
    clear hM
    refine call_cnext hC hA (hd := 2) (hs := 3) (hb := 0) (hr := 1) hQ hD hks hx hF (by decide) (cells_vwD rfl hD.len) (cells_vwA hA rfl hks) rfl rfl fun a2 b2 p2 at2 hold2 nb2 y e hF2 hN => ?_
    rw [hQ.long] at hN
    rw [nxM_of hQ.lens hN] at hstep
    have hok := NextQ_ok hQ.lens hN
    clear hN hF
    cbv
    (try simp only [ncast] at *)
    refine ifB_intro (fun h => ?_) (fun h => ?_)
    · have he := h
      (try simp only [wA hA] at he)
      (try rw [h]); clear h
      cbv
      (try simp only [ncast] at *)
      rw [if_pos he] at hstep
      have hstep : M0 = .error e := hstep
      subst hA hq
      refine Fin_of ⟨[(6, .lst 4 0), (7, .int .i64 e)], [.box 101 [.lst 1 m, .int .i64 at2, .int .u64 hold2, .int .i64 nb2, .int .i64 0, .bool true], .lst 5 1 (R.ints .u8 xs), .vw dc, .vw (R.ints .i64 sy), .lst 3 1 (R.ints .i64 [])]⟩ ((Sub_nilT (i := 6) 3 1 rfl).trans ?_) ⟨a2, b2, p2, 0, at2, hold2, nb2, 0, e, [], hF2, .inl ⟨by omega, rfl, by rw [← hM0]; exact hstep⟩, rfl, rfl, rfl⟩
      have dc0 : ∀ (N : Nat) (H1 : List Ck), 3 < N → H1[2]? = some (.vw dc) → subC 4 N [0, 1, 2, 3, 5] H1 2 2 (.vw dc) := fun N H1 hN h => dc_v hD hN rfl h
      unfold RdH
      exact Sc [0, 1, 2, 3, 5] (by repeat' (first | exact dc0 _ _ (Nat.le_of_ble_eq_true rfl) rfl | exact trivial | exact fun _ => rfl | exact fun h => absurd h (by simp) | exact subC_ints rfl | refine And.intro ?_ ?_ | rfl | (simp [subH_nil, hLts, hLt, renCk, renC, sg, Ck.cells, R_ints_ren, R_ints_hLts]; done)))
    · have he := h
      (try simp only [wA hA] at he)
      (try rw [h]); clear h
      cbv
      (try simp only [ncast] at *)
      rw [if_neg (by omega)] at hstep
      obtain ⟨hy0, hyl, hp12, hp2l⟩ := hok (by omega)
      refine call_drow hC hA (hb := 0) (hr := 1) hx hF2 hy0 (by decide) rfl rfl fun a3 b3 p3 at3 hold3 nb3 er3 x k2 e2 hF3 hR => ?_
      cbv
      (try simp only [ncast] at *)
      refine ifB_intro (fun h => ?_) (fun h => ?_)
      · have he2 := h
        (try simp only [wA hA] at he2)
        (try rw [h]); clear h
        cbv
        (try simp only [ncast] at *)
        have hstep : M0 = .error e2 := by
          rw [hstep, ← hla]
          rcases hR with ⟨_, _, _, h⟩ | ⟨h, _⟩
          · rw [h]
          · omega
        subst hA hq
        refine Fin_of ⟨[(6, .lst 4 0), (7, .int .i64 e2)], [.box 101 [.lst 1 m, .int .i64 at3, .int .u64 hold3, .int .i64 nb3, .int .i64 er3, .bool true], .lst 5 1 (R.ints .u8 xs), .vw dc, .vw (R.ints .i64 sy), .lst 3 1 (R.ints .i64 [])]⟩ ((Sub_nilT (i := 6) 3 1 rfl).trans ?_) ⟨a3, b3, p3, 0, at3, hold3, nb3, er3, e2, [], hF3, .inl ⟨by omega, rfl, by rw [← hM0]; exact hstep⟩, rfl, rfl, rfl⟩
        have dc0 : ∀ (N : Nat) (H1 : List Ck), 3 < N → H1[2]? = some (.vw dc) → subC 4 N [0, 1, 2, 3, 5] H1 2 2 (.vw dc) := fun N H1 hN h => dc_v hD hN rfl h
        unfold RdH
        exact Sc [0, 1, 2, 3, 5] (by repeat' (first | exact dc0 _ _ (Nat.le_of_ble_eq_true rfl) rfl | exact trivial | exact fun _ => rfl | exact fun h => absurd h (by simp) | exact subC_ints rfl | refine And.intro ?_ ?_ | rfl | (simp [subH_nil, hLts, hLt, renCk, renC, sg, Ck.cells, R_ints_ren, R_ints_hLts]; done)))
      · have he2 := h
        (try simp only [wA hA] at he2)
        (try rw [h]); clear h
        cbv
        (try simp only [ncast] at *)
        obtain ⟨hr3, hR2⟩ : er3 = 0 ∧ rowM xs p2 y last = .ok (x, k2, p3) := by
          rcases hR with ⟨h, _⟩ | ⟨_, h⟩
          · omega
          · exact h
        subst hr3
        obtain ⟨hk1, hk138, _⟩ := rowM_ok hR2
        rw [← hla, hR2] at hstep
        have hstep : M0 = if n - o.length < k2 then .error 4 else liM l xs n (f - 1) p3 (o ++ List.replicate k2.toNat x) := hstep
        clear hR hR2
        have e3 : A.bin .sub .i64 n kI = n - kI := by rw [subA' hA, wrap64 (by omega)]
        simp only [ek, e3]
        refine ifB_intro (fun h => ?_) (fun h => ?_)
        · have h4 := h
          (try simp only [wA hA] at h4)
          (try rw [h]); clear h
          cbv
          (try simp only [ncast] at *)
          rw [if_pos (by omega)] at hstep
          subst hA hq
          refine Fin_of ⟨[(6, .lst 4 0), (7, .int .i64 4)], [.box 101 [.lst 1 m, .int .i64 at3, .int .u64 hold3, .int .i64 nb3, .int .i64 0, .bool true], .lst 5 1 (R.ints .u8 xs), .vw dc, .vw (R.ints .i64 sy), .lst 3 1 (R.ints .i64 [])]⟩ ((Sub_nilT (i := 6) 3 1 rfl).trans ?_) ⟨a3, b3, p3, 0, at3, hold3, nb3, 0, 4, [], hF3, .inl ⟨by omega, rfl, by rw [← hM0]; exact hstep⟩, rfl, rfl, rfl⟩
          have dc0 : ∀ (N : Nat) (H1 : List Ck), 3 < N → H1[2]? = some (.vw dc) → subC 4 N [0, 1, 2, 3, 5] H1 2 2 (.vw dc) := fun N H1 hN h => dc_v hD hN rfl h
          unfold RdH
          exact Sc [0, 1, 2, 3, 5] (by repeat' (first | exact dc0 _ _ (Nat.le_of_ble_eq_true rfl) rfl | exact trivial | exact fun _ => rfl | exact fun h => absurd h (by simp) | exact subC_ints rfl | refine And.intro ?_ ?_ | rfl | (simp [subH_nil, hLts, hLt, renCk, renC, sg, Ck.cells, R_ints_ren, R_ints_hLts]; done)))
        · have h4 := h
          (try simp only [wA hA] at h4)
          (try rw [h]); clear h
          cbv
          (try simp only [ncast] at *)
          rw [if_neg (by omega)] at hstep
          have hf : n ≤ (f : Int) + o.length := hf
          clear hla
          refine ⟨fun kk s => ∃ (i k : Nat) (iI : Int) (us : List Int), iI = i ∧ iI ≤ k2 ∧ us = o ++ List.replicate i x ∧ k = us.length ∧ kk = (k2 - iI).toNat ∧ s = ⟨[(0, .ptr 0 0), (1, .ptr 2 0), (2, .int .i64 n), (8, .lst 4 k), (12, .int .i64 x), (44, .int .i64 k2), (45, .int .i64 iI)],
                [.box 101 [.lst 1 m, .int .i64 at3, .int .u64 hold3, .int .i64 nb3, .int .i64 0, .bool true], .lst 5 1 (A.ints .u8 xs), .vw dc, .vw (A.ints .i64 sy), .lst 3 1 (A.ints .i64 us)]⟩,
              ⟨_, ⟨[(0, .ptr 0 0), (1, .ptr 2 0), (2, .int .i64 n), (8, .lst 4 k), (12, .int .i64 x), (44, .int .i64 k2), (45, .int .i64 0)],
                [.box 101 [.lst 1 m, .int .i64 at3, .int .u64 hold3, .int .i64 nb3, .int .i64 0, .bool true], .lst 5 1 (A.ints .u8 xs), .vw dc, .vw (A.ints .i64 sy), .lst 3 1 (A.ints .i64 o)]⟩, ?_, 0, k, 0, o, rfl, by omega, by simp, hk, rfl, rfl⟩, ?_⟩
          · subst hA
            have dc0 : ∀ (N : Nat) (H1 : List Ck), 3 < N → H1[2]? = some (.vw dc) → subC 4 N [0, 1, 2, 3, 4] H1 2 2 (.vw dc) := fun N H1 hN h => dc_v hD hN rfl h
            exact Sc [0, 1, 2, 3, 4] (by repeat' (first | exact dc0 _ _ (Nat.le_of_ble_eq_true rfl) rfl | exact trivial | exact fun _ => rfl | exact fun h => absurd h (by simp) | exact subC_ints rfl | refine And.intro ?_ ?_ | rfl | (simp [subH_nil, hLts, hLt, renCk, renC, sg, Ck.cells, R_ints_ren, R_ints_hLts]; done)))
          rintro kk2 _ ⟨i, ku, iI, us, hiI, hik, hus, hku, hkk2, rfl⟩
          have hul : us.length = o.length + i := by rw [hus]; simp
          cbv
          (try simp only [ncast] at *)
          refine ifB_intro (fun h => ?_) (fun h => ?_)
          · have h5 := h
            (try simp only [wA hA] at h5)
            (try rw [h]); clear h
            cbv
            (try simp only [ncast] at *)
            have ha := apdA1 hA .i64 us x
            refine ⟨?_, ?_, ?_⟩
            · subst hA
              show (R.ints .i64 us).length = ku * 1
              rw [R_ints_length]; omega
            · subst hA
              show (ku + 1) * 8 ≤ room
              unfold room; omega
            have e5 : A.bin .add .i64 iI 1 = iI + 1 := by rw [addA hA, wrap64 (by omega)]
            cbv
            (try simp only [ncast] at *)
            simp only [e5]
            subst hag
            refine ⟨(k2 - (iI + 1)).toNat, ⟨[(0, .ptr 0 0), (1, .ptr 2 0), (2, .int .i64 n), (8, .lst 4 (ku + 1)), (12, .int .i64 x), (44, .int .i64 k2), (45, .int .i64 (iI + 1))],
                [.box 101 [.lst 1 m, .int .i64 at3, .int .u64 hold3, .int .i64 nb3, .int .i64 0, .bool true], .lst 5 1 (A.ints .u8 xs), .vw dc, .vw (A.ints .i64 sy), .lst 3 1 (A.ints .i64 (us ++ [x]))]⟩, by omega, ?_, i + 1, ku + 1, iI + 1, us ++ [x], by omega, by omega, by rw [hus, List.replicate_succ', List.append_assoc], by simp; omega, rfl, rfl⟩
            subst hA
            have dc0 : ∀ (N : Nat) (H1 : List Ck), 3 < N → H1[2]? = some (.vw dc) → subC 4 N [0, 1, 2, 3, 6] H1 2 2 (.vw dc) := fun N H1 hN h => dc_v hD hN rfl h
            exact Sd [0, 1, 2, 3, 6] (by repeat' (first | exact dc0 _ _ (Nat.le_of_ble_eq_true rfl) rfl | exact trivial | exact fun _ => rfl | exact fun h => absurd h (by simp) | exact subC_ints rfl | exact subC_ints (congrArg (fun l => some (Ck.lst _ _ l)) ha) | refine And.intro ?_ ?_ | rfl | (simp [subH_nil, hLts, hLt, renCk, renC, sg, Ck.cells, R_ints_ren, R_ints_hLts, ha]; done))) (by repeat' (first | exact trivial | exact .inr ⟨trivial, rfl⟩ | exact .inr ⟨by simp [vOk, hLt, hLts, ha], rfl⟩ | refine And.intro ?_ ?_))
          · have h5 := h
            (try simp only [wA hA] at h5)
            (try rw [h]); clear h
            cbv
            (try simp only [ncast] at *)
            have hi2 : i = k2.toNat := by omega
            rw [← hi2, ← hus] at hstep
            subst hag
            refine ⟨(n - us.length).toNat, ⟨[(0, .ptr 0 0), (1, .ptr 2 0), (2, .int .i64 n), (8, .lst 4 ku), (9, .int .i64 x)],
                [.box 101 [.lst 1 m, .int .i64 at3, .int .u64 hold3, .int .i64 nb3, .int .i64 0, .bool true], .lst 5 1 (A.ints .u8 xs), .vw dc, .vw (A.ints .i64 sy), .lst 3 1 (A.ints .i64 us)]⟩, by omega, ?_, f - 1, p3, a3, b3, ku, at3, hold3, nb3, x, us, hstep, by omega, by omega, by rw [hus]; exact (lastI_app o i x (by omega)).symm, hku, hF3, rfl, rfl⟩
            subst hA
            have dc0 : ∀ (N : Nat) (H1 : List Ck), 3 < N → H1[2]? = some (.vw dc) → subC 4 N [0, 1, 2, 3, 4] H1 2 2 (.vw dc) := fun N H1 hN h => dc_v hD hN rfl h
            exact Sc [0, 1, 2, 3, 4] (by repeat' (first | exact dc0 _ _ (Nat.le_of_ble_eq_true rfl) rfl | exact trivial | exact fun _ => rfl | exact fun h => absurd h (by simp) | exact subC_ints rfl | refine And.intro ?_ ?_ | rfl | (simp [subH_nil, hLts, hLt, renCk, renC, sg, Ck.cells, R_ints_ren, R_ints_hLts]; done)))
  · have hge := h
    (try simp only [wA hA] at hge)
    (try rw [h]); clear h
    cbv
    (try simp only [ncast] at *)
    have hM : M0 = .ok (o, p1) := by rw [hM, liM_end (by omega)]
    subst hA hq
    refine Fin_of ⟨[(6, .lst 4 k), (7, .int .i64 0)], [.box 101 [.lst 1 m, .int .i64 at1, .int .u64 hold1, .int .i64 nb1, .int .i64 0, .bool true], .lst 5 1 (R.ints .u8 xs), .vw dc, .vw (R.ints .i64 sy), .lst 3 1 (R.ints .i64 o)]⟩ ?_ ⟨a1, b1, p1, k, at1, hold1, nb1, 0, 0, o, hF, .inr ⟨rfl, rfl, by omega, by rw [← hM0]; exact hM⟩, hk, rfl, rfl⟩
    have dc0 : ∀ (N : Nat) (H1 : List Ck), 3 < N → H1[2]? = some (.vw dc) → subC 4 N [0, 1, 2, 3, 4] H1 2 2 (.vw dc) := fun N H1 hN h => dc_v hD hN rfl h
    unfold RdH
    exact Sc [0, 1, 2, 3, 4] (by repeat' (first | exact dc0 _ _ (Nat.le_of_ble_eq_true rfl) rfl | exact trivial | exact fun _ => rfl | exact fun h => absurd h (by simp) | exact subC_ints rfl | refine And.intro ?_ ?_ | rfl | (simp [subH_nil, hLts, hLt, renCk, renC, sg, Ck.cells, R_ints_ren, R_ints_hLts]; done)))
end Go.Sx

/- dyn: third: the contract, where dyn.order reads as laid. -/
set_option maxRecDepth 100000
set_option maxHeartbeats 4000000
set_option linter.unusedVariables false
set_option linter.unusedSimpArgs false
namespace Go.Sx
open Go.Proofs.Tryd

/-- dyn.order reads as laid. -/
def OrdK [Γ : Gam] : Prop := (0, 0, ordD.map (Value.int .i64)) ∈ Γ.fs
def ThQ (xs : List Int) (p : Nat) (nN : Nat) (e : Int) (l : List Int) (p' : Nat) (er' : Int) : Prop :=
  (e = 3 ∧ 8 * xs.length < p + 3 * nN) ∨ (e = 6 ∧ p + 3 * nN ≤ 8 * xs.length ∧ ¬ ChkQ (thS xs p nN 19) 1) ∨ (e = 0 ∧ er' = 0 ∧ p + 3 * nN ≤ 8 * xs.length ∧ ChkQ (thS xs p nN 19) 1 ∧ l = thS xs p nN 19 ∧ p' = p + 3 * nN)
theorem row_num1 {n : Int} {k : IntKind} : R.row n [.int k 0] = R.ints k (List.replicate n.toNat 0) := by
  show zrow n.toNat [.int k 0] = ints k _
  rw [zrow_one]
  simp [ints, SV.of]
theorem RF.le {xs : List Int} {p a b : Nat} {at_ hold nb : Int} (h : RF xs p a b at_ hold nb) : p ≤ 8 * xs.length := by
  obtain ⟨_, _, h3, h4, _⟩ := h
  omega
theorem s_third [Γ : Gam] (hO : OrdK) (xs : List Int) (m p a b nN : Nat) (at_ hold nb n : Int) (hn : n = nN) (hn19 : nN ≤ 19) (hx : RX xs m) (hF : RF xs p a b at_ hold nb) :
    Spec prog 70 [.ptr 0 0, .int .i64 n] (RdH R m at_ hold nb 0 xs) (fun r H => ∃ (a b p' ks : Nat) (at_ hold nb er' e lg : Int) (l sy tb : List Int) (dc : List SV), RF xs p' a b at_ hold nb ∧ ThQ xs p nN e l p' er' ∧
      ((e ≠ 0 ∧ r = .tup [.nilP, .int .i64 e] ∧ H = RdH R m at_ hold nb er' xs ++ [.gone, .gone]) ∨ (e = 0 ∧ DecQ l lg sy tb ∧ IsDC dc true lg (cvec l) (fvec (cvec l)) (.lst 3 ks) tb ∧ ks = sy.length ∧ r = .tup [.ptr 2 0, .int .i64 0] ∧ H = RdH R m at_ hold nb er' xs ++ [.box 147 dc, .lst 3 1 (R.ints .i64 sy)]))) := by
  refine Spec_of_kF (D := fun i => (0, [])) (ks := [0, 1, 4, 5, 6, 8, 10, 11]) tok mixed (fn := f70) rfl rfl rfl (by kernel_rfl) (N := 39) rfl (rs := [.tmp 4, .tmp 5]) rfl (Nat.le_of_ble_eq_true rfl) fun A C Kp E ag L q hA hC hK hE hag hL hq => ?_
  rw [← hA]
  unfold RdH
  obtain ⟨z19, hz19⟩ : ∃ z, z = List.replicate 19 (0 : Int) := ⟨_, rfl⟩
  obtain ⟨od, hod⟩ : ∃ z, z = ordD := ⟨_, rfl⟩
  have hodl : od.length = 19 := by rw [hod]; rfl
  have hodb : ∀ i, i < 19 → 0 ≤ od.getD i 0 ∧ od.getD i 0 ≤ 18 := by rw [hod]; decide
  have hr2 : A.row 19 [.int .i64 0] = A.ints .i64 z19 := by rw [hz19]; subst hA; exact row_num1
  have ht : A.tn 19 = 19 := by rw [tnA hA]; rfl
  have hm1 : A.mks 8 19 19 := by rw [mksA hA]; omega
  have eo : ordD.map (SV.int .i64) = A.ints .i64 od := by subst hA; rw [hod]; rfl
  cbv
  simp only [hr2, ht, hm1, true_and]
  cbv
  refine hk_gload hE tok (ti := ⟨.array 19 3, 19, 152, List.replicate 19 (.int .i64 0)⟩) (k := .i64) (xs := ordD) rfl rfl rfl rfl hO ?_
  rw [eo]
  clear eo hr2 ht hm1
  cbv
  (try simp only [ncast] at *)
  obtain ⟨T, hT⟩ : ∃ T : Nat → List Int, T = thS xs p nN := ⟨_, rfl⟩
  have hT0 : T 0 = z19 := by rw [hT, hz19]; rfl
  have hTs : ∀ i, i < nN → T (i + 1) = (T i).set (od.getD i 0).toNat (cut (V xs) (p + 3 * i) 3) := fun i hi => by rw [hT, thS, if_pos hi, hod]
  have hTn : ∀ i, nN ≤ i → T (i + 1) = T i := fun i hi => by rw [hT, thS, if_neg (by omega)]
  have hTl : ∀ i, (T i).length = 19 := fun i => by rw [hT]; exact thS_len xs p nN i
  rw [hL]
  refine ⟨fun kk s => ∃ (i p1 a b : Nat) (iI n1 at_ hold nb er : Int) (t : List Int), iI = i ∧ i ≤ 19 ∧ n1 = (nN : Int) - (if i < nN then i else nN : Nat) ∧ RF xs p1 a b at_ hold nb ∧ t.length = 19 ∧
      ((er = 0 ∧ p1 = p + 3 * (if i < nN then i else nN : Nat) ∧ p1 ≤ 8 * xs.length ∧ t = T i) ∨ (er = 3 ∧ 8 * xs.length < p + 3 * nN)) ∧ kk = 19 - i ∧
      s = ⟨[(0, .ptr 0 0), (1, .int .i64 n1), (4, .nilP), (5, .int .i64 0), (6, .lst 2 19), (10, .agg (A.ints .i64 od)), (11, .int .i64 iI)], [.box 101 [.lst 1 m, .int .i64 at_, .int .u64 hold, .int .i64 nb, .int .i64 er, .bool true], .lst 5 1 (A.ints .u8 xs), .lst 3 1 (A.ints .i64 t)]⟩,
    ⟨_, ⟨[(0, .ptr 0 0), (1, .int .i64 n), (4, .nilP), (5, .int .i64 0), (6, .lst 2 19), (10, .agg (A.ints .i64 od)), (11, .int .i64 0)], [.box 101 [.lst 1 m, .int .i64 at_, .int .u64 hold, .int .i64 nb, .int .i64 0, .bool true], .lst 5 1 (A.ints .u8 xs), .lst 3 1 (A.ints .i64 z19)]⟩, ?_,
      0, p, a, b, 0, n, at_, hold, nb, 0, z19, rfl, by omega, by split <;> omega, hF, by rw [hz19]; rfl, .inl ⟨rfl, by split <;> omega, ?_, hT0.symm⟩, rfl, rfl⟩, ?_⟩
  · subst hA
    exact Sd [0, 1, 2] (by repeat' (first | exact trivial | exact fun _ => rfl | exact fun h => absurd h (by simp) | exact subC_ints rfl | refine And.intro ?_ ?_ | rfl | (simp [subH_nil, hLts, hLt, renCk, renC, sg, Ck.cells, R_ints_ren, R_ints_hLts]; done))) (by repeat' (first | exact trivial | exact .inr ⟨trivial, rfl⟩ | exact .inr (agg_keep rfl) | exact .inr ⟨by simp [vOk, hLt, hLts], rfl⟩ | refine And.intro ?_ ?_))
  · exact hF.le
  have hpn : p ≤ 8 * xs.length := hF.le
  clear hF hT0
  rintro kk _ ⟨i, p1, a1, b1, iI, n1, at1, hold1, nb1, er1, t, hiI, hi, hn1, hF, htl, hcase, hkk, rfl⟩
  cbv
  (try simp only [ncast] at *)
  refine ifB_intro (fun h => ?_) (fun h => ?_)
  · have hlt := h
    (try simp only [wA hA] at hlt)
    (try rw [h]); clear h
    cbv
    (try simp only [ncast] at *)
    refine hk_arr hA hK _ 3 19 _ _ .i64 .i64 od iI rfl (by kernel_rfl) (by kernel_rfl) (by kernel_rfl) (by kernel_rfl) rfl rfl hodl ⟨by omega, by omega⟩ fun v hv => ?_
    have hv : v = od.getD i 0 := by rw [hv]; congr 1; omega
    have hvb := hodb i (by omega)
    rw [← hv] at hvb
    have e5 : A.bin .add .i64 iI 1 = iI + 1 := by rw [addA hA, wrap64 (by omega)]
    cbv
    (try simp only [ncast] at *)
    refine ifB_intro (fun h => ?_) (fun h => ?_)
    · have h1 := h
      (try simp only [wA hA] at h1)
      (try rw [h]); clear h
      cbv
      (try simp only [ncast] at *)
      have hin : i < nN := by
        rcases Nat.lt_or_ge i nN with h | h
        · exact h
        · rw [if_neg (by omega)] at hn1; omega
      rw [if_pos hin] at hn1 hcase
      have e6 : A.bin .sub .i64 n1 1 = n1 - 1 := by rw [subA' hA, wrap64 (by omega)]
      refine toC hC (call_bits rfl hA (hb := 0) (hr := 1) (n := 3) hx hF (by decide) rfl rfl fun a2 b2 p2 at2 hold2 nb2 er2 z hF2 hB0 => ?_)
      have hnx : t.set v.toNat z = t.set v.toNat z := rfl
      have hcase2 : (er2 = 0 ∧ p2 = p + 3 * (if i + 1 < nN then i + 1 else nN : Nat) ∧ p2 ≤ 8 * xs.length ∧ t.set v.toNat z = T (i + 1)) ∨ (er2 = 3 ∧ 8 * xs.length < p + 3 * nN) := by
        rcases hcase with ⟨he, hp1, hp2, htT⟩ | ⟨he, hl⟩
        · have hB1 := bits0 he (by omega) hB0
          rcases hB1 with ⟨h2, h3, h4, h5⟩ | ⟨h2, h3, h4, h5⟩
          · have h2 : 8 * xs.length < p1 + 3 := h2
            exact .inr ⟨h4, by omega⟩
          · have h2 : p1 + 3 ≤ 8 * xs.length := h2
            have h3 : z = cut (V xs) p1 3 := h3
            have h5 : p2 = p1 + 3 := h5
            refine .inl ⟨h4, by split <;> omega, by omega, ?_⟩
            rw [hTs i hin, ← hv, htT, h3, hp1]
        · have hB1 := bits1 (by omega) hB0
          exact .inr ⟨by omega, hl⟩
      have hzb : 0 ≤ z ∧ z < 8 := by
        rcases hB0 with h | h | h | h
        · omega
        · omega
        · omega
        · have := cut_b (V xs) p1 (n := 3)
          have e8 : (2 : Int) ^ 3 = 8 := rfl
          have h2 : z = cut (V xs) p1 3 := h.2.2.2.2.1
          omega
      clear hB0 hnx hcase
      have e7 : A.wrap .i64 z = z := by rw [wrapA hA, wrap64 (by omega)]
      cbv
      (try simp only [ncast] at *)
      simp only [e7]
      refine wrA hA (by omega) (by omega) fun ys hys => ?_
      have hys : ys = t.set v.toNat z := by rw [hys]; congr 1; omega
      cbv
      (try simp only [ncast] at *)
      simp only [e5, e6]
      rw [← hys] at hcase2
      subst hag
      refine ⟨19 - (i + 1), ⟨[(0, .ptr 0 0), (1, .int .i64 (n1 - 1)), (4, .nilP), (5, .int .i64 0), (6, .lst 2 19), (10, .agg (A.ints .i64 od)), (11, .int .i64 (iI + 1))], [.box 101 [.lst 1 m, .int .i64 at2, .int .u64 hold2, .int .i64 nb2, .int .i64 er2, .bool true], .lst 5 1 (A.ints .u8 xs), .lst 3 1 (A.ints .i64 ys)]⟩, by omega, ?_,
        i + 1, p2, a2, b2, iI + 1, n1 - 1, at2, hold2, nb2, er2, ys, by omega, by omega, by split <;> omega, hF2, by rw [hys, List.length_set]; exact htl, hcase2, rfl, rfl⟩
      subst hA
      exact Sd [0, 1, 2] (by repeat' (first | exact trivial | exact fun _ => rfl | exact fun h => absurd h (by simp) | exact subC_ints rfl | refine And.intro ?_ ?_ | rfl | (simp [subH_nil, hLts, hLt, renCk, renC, sg, Ck.cells, R_ints_ren, R_ints_hLts]; done))) (by repeat' (first | exact trivial | exact .inr ⟨trivial, rfl⟩ | exact .inr (agg_keep rfl) | exact .inr ⟨by simp [vOk, hLt, hLts], rfl⟩ | refine And.intro ?_ ?_))
    · have h1 := h
      (try simp only [wA hA] at h1)
      (try rw [h]); clear h
      cbv
      (try simp only [ncast] at *)
      have hin : nN ≤ i := by
        rcases Nat.lt_or_ge i nN with h | h
        · rw [if_pos h] at hn1; omega
        · exact h
      rw [if_neg (by omega)] at hn1 hcase
      simp only [e5]
      rw [← hTn i hin] at hcase
      subst hag
      refine ⟨19 - (i + 1), ⟨[(0, .ptr 0 0), (1, .int .i64 n1), (4, .nilP), (5, .int .i64 0), (6, .lst 2 19), (10, .agg (A.ints .i64 od)), (11, .int .i64 (iI + 1))], [.box 101 [.lst 1 m, .int .i64 at1, .int .u64 hold1, .int .i64 nb1, .int .i64 er1, .bool true], .lst 5 1 (A.ints .u8 xs), .lst 3 1 (A.ints .i64 t)]⟩, by omega, ?_,
        i + 1, p1, a1, b1, iI + 1, n1, at1, hold1, nb1, er1, t, by omega, by omega, by rw [if_neg (by omega)]; exact hn1, hF, htl, by rw [if_neg (by omega)]; exact hcase, rfl, rfl⟩
      subst hA
      exact Sd [0, 1, 2] (by repeat' (first | exact trivial | exact fun _ => rfl | exact fun h => absurd h (by simp) | exact subC_ints rfl | refine And.intro ?_ ?_ | rfl | (simp [subH_nil, hLts, hLt, renCk, renC, sg, Ck.cells, R_ints_ren, R_ints_hLts]; done))) (by repeat' (first | exact trivial | exact .inr ⟨trivial, rfl⟩ | exact .inr (agg_keep rfl) | exact .inr ⟨by simp [vOk, hLt, hLts], rfl⟩ | refine And.intro ?_ ?_))
  · have hge := h
    (try simp only [wA hA] at hge)
    (try rw [h]); clear h
    cbv
    (try simp only [ncast] at *)
    have hi19 : i = 19 := by omega
    rw [if_neg (by omega)] at hcase
    rw [hi19] at hcase
    clear hTs hTn hn1 hi hkk hiI
    rcases hcase with ⟨rfl, hp1, hp2, htT⟩ | ⟨rfl, hl⟩
    · refine toC hC (call_err rfl (hb := 0) (hr := 1) rfl (by show 1 < 3; omega) ?_)
      cbv
      (try simp only [ncast] at *)
      refine ifF (by simp only [neqA hA]; simp) fun h => ?_
      (try rw [h]); clear h
      cbv
      (try simp only [ncast] at *)
      refine toC hC (call_check rfl hA (hb := 2) (ln := 19) (l := t) htl.symm (cells_lst rfl (by rw [A_ints_len hA]; exact htl)) ⟨⟨(show 0 < 1 by omega), rfl, rfl, rfl, rfl⟩, trivial⟩ fun y hy => ?_)
      cbv
      (try simp only [ncast] at *)
      refine ifB_intro (fun h => ?_) (fun h => ?_)
      · have hy1 := h
        (try simp only [wA hA] at hy1)
        (try rw [h]); clear h
        cbv
        (try simp only [ncast] at *)
        have hQ : ThQ xs p nN 6 [] p1 0 := .inr (.inl ⟨rfl, by omega, fun h => by
          rw [htT, hT] at hy
          exact hy1 (ChkQ_uniq1 hy h)⟩)
        subst hA hq
        refine Fin_of ⟨[(4, .nilP), (5, .int .i64 6)], RdH R m at1 hold1 nb1 0 xs ++ [.gone, .gone]⟩ ?_ ⟨a1, b1, p1, 0, at1, hold1, nb1, 0, 6, 0, [], [], [], [], hF, hQ, .inl ⟨by omega, rfl, rfl⟩⟩
        unfold RdH
        exact Sb [0, 1, 2, 2]
      · have hy1 := h
        (try simp only [wA hA] at hy1)
        (try rw [h]); clear h
        cbv
        (try simp only [ncast] at *)
        have hy2 : ChkQ (thS xs p nN 19) 1 := by
          rw [htT, hT] at hy
          rw [← hy1]; exact hy
        refine toC hC (call_cnew rfl hA (hb := 2) (ln := 19) (l := t) htl.symm (cells_lst rfl (by rw [A_ints_len hA]; exact htl)) ⟨⟨(show 0 < 1 by omega), rfl, rfl, rfl, rfl⟩, trivial⟩ (fun e he he0 => ?_) (fun lg sy tb dc ks hW hQ hD hks => ?_))
        · exact absurd (WrQ_uniq he (by have := WrQ_of hy; rw [hy1] at this; exact this)) he0
        · cbv
          (try simp only [ncast] at *)
          have hQ2 : ThQ xs p nN 0 t p1 0 := .inr (.inr ⟨rfl, rfl, by omega, hy2, by rw [htT, hT], hp1⟩)
          subst hA hq
          have hD2 := hD.mapR (fun i => if i = 4 then (3, 0) else (i, 0))
          refine Fin_of ⟨[(4, .ptr 2 0), (5, .int .i64 0)], RdH R m at1 hold1 nb1 0 xs ++ [.box 147 (dc.set 36 (.lst 3 ks)), .lst 3 1 (R.ints .i64 sy)]⟩ ?_ ⟨a1, b1, p1, ks, at1, hold1, nb1, 0, 0, lg, t, sy, tb, dc.set 36 (.lst 3 ks), hF, hQ2, .inr ⟨rfl, hQ, hD.setS _, hks, rfl, rfl⟩⟩
          unfold RdH
          have dc0 : ∀ (N : Nat) (H1 : List Ck), 3 < N → H1[3]? = some (.box 147 dc) → subC 2 N [0, 1, 3, 4] H1 2 3 (.box 147 (dc.set 36 (.lst 3 ks))) :=
            fun N H1 hN h => subC_dc (hD.setS (.lst 3 ks)) (show 3 < N from hN) hD h
          exact Sc [0, 1, 3, 4] (by repeat' (first | exact dc0 _ _ (Nat.le_of_ble_eq_true rfl) rfl | exact trivial | exact fun _ => rfl | exact fun h => absurd h (by simp) | exact subC_ints rfl | refine And.intro ?_ ?_ | rfl | (simp [subH_nil, hLts, hLt, renCk, renC, sg, Ck.cells, R_ints_ren, R_ints_hLts]; done)))
    · refine toC hC (call_err rfl (hb := 0) (hr := 1) rfl (by show 1 < 3; omega) ?_)
      cbv
      (try simp only [ncast] at *)
      refine ifT (by simp only [neqA hA]; simp) fun h => ?_
      (try rw [h]); clear h
      cbv
      (try simp only [ncast] at *)
      refine toC hC (call_err rfl (hb := 0) (hr := 1) rfl (by show 1 < 3; omega) ?_)
      cbv
      (try simp only [ncast] at *)
      have hQ : ThQ xs p nN 3 [] p1 3 := .inl ⟨rfl, hl⟩
      subst hA hq
      refine Fin_of ⟨[(4, .nilP), (5, .int .i64 3)], RdH R m at1 hold1 nb1 3 xs ++ [.gone, .gone]⟩ ?_ ⟨a1, b1, p1, 0, at1, hold1, nb1, 3, 3, 0, [], [], [], [], hF, hQ, .inl ⟨by omega, rfl, rfl⟩⟩
      unfold RdH
      exact Sb [0, 1, 2, 2]
end Go.Sx

/- dyn.order reads as laid: what the contracts ask for. -/
set_option linter.unusedVariables false
namespace Go.Sx
open Go.Proofs.Tryd
abbrev GD : Gam := ⟨[(0, 0, ordD.map (Value.int .i64))]⟩
theorem ordK_GD : OrdK (Γ := GD) := List.mem_singleton.2 rfl
end Go.Sx

/- inflate: what is told, plainly: the model. -/
set_option maxRecDepth 100000
set_option maxHeartbeats 4000000
set_option linter.unusedVariables false
set_option linter.unusedSimpArgs false
namespace Go.Sx
open Go.Proofs.Tryd

def up8i (p : Nat) : Nat := (p + 7) / 8 * 8
/-- Bytes as they are. -/
def plL (xs : List Int) (mo : Int) : Nat → Nat → List Int → Except Int (Nat × List Int)
  | 0, p, o => .ok (p, o)
  | n + 1, p, o => if 8 * xs.length < p + 8 then .error 3 else if (o.length : Int) = mo then .error 9 else plL xs mo n (p + 8) (o ++ [cut (V xs) p 8])
def plM (xs : List Int) (mo : Int) (p : Nat) (o : List Int) : Except Int (Nat × List Int × Int) :=
  if 8 * xs.length < up8i p + 32 then .error 3
  else if cut (V xs) (up8i p) 16 + cut (V xs) (up8i p + 16) 16 ≠ 65535 then .error 4
  else match plL xs mo (cut (V xs) (up8i p) 16).toNat (up8i p + 32) o with
    | .error e => .error e
    | .ok (p2, o2) => .ok (p2, o2, cut (V xs) (up8i p) 16)
def lenF (code : Int) (large : Bool) : Option (Int × Nat) :=
  if code < 257 ∨ 285 < code then none else if code = 285 then (if large = true then some (3, 16) else some (258, 0)) else some (bL (code - 257).toNat, eL (code - 257).toNat)
def distF (code : Int) (large : Bool) : Option (Int × Nat) :=
  if code < 0 ∨ 31 < code ∨ (29 < code ∧ large = false) then none else some (bD code.toNat, eD code.toNat)
/-- A copy behind the code of its length. -/
noncomputable def cpM (xs : List Int) (wd mo : Int) (large : Bool) (dl : List Int) (p : Nat) (o : List Int) (code : Int) : Except Int (Nat × List Int) :=
  match lenF code large with
  | none => .error 7
  | some (a, k) =>
    if 8 * xs.length < p + k then .error 3
    else if (nxM dl xs (p + k)).2.1 ≠ 0 then .error (nxM dl xs (p + k)).2.1
    else match distF (nxM dl xs (p + k)).1 large with
      | none => .error 7
      | some (d, k2) =>
        if 8 * xs.length < (nxM dl xs (p + k)).2.2 + k2 then .error 3
        else if wd < d + cut (V xs) (nxM dl xs (p + k)).2.2 k2 ∨ (o.length : Int) < d + cut (V xs) (nxM dl xs (p + k)).2.2 k2 then .error 8
        else if mo - o.length < a + cut (V xs) p k then .error 9
        else .ok ((nxM dl xs (p + k)).2.2 + k2, cp o (d + cut (V xs) (nxM dl xs (p + k)).2.2 k2).toNat (a + cut (V xs) p k).toNat)
/-- A block's words. -/
noncomputable def wdM (xs : List Int) (wd mo : Int) (large : Bool) (ll dl : List Int) : Nat → Nat → List Int → Int → Except Int (Nat × List Int × Int)
  | 0, _, _, _ => .error 0
  | f + 1, p, o, st =>
    if (nxM ll xs p).2.1 ≠ 0 then .error (nxM ll xs p).2.1
    else if (nxM ll xs p).1 = 256 then .ok ((nxM ll xs p).2.2, o, st + 1)
    else if (nxM ll xs p).1 < 256 then (if (o.length : Int) = mo then .error 9 else wdM xs wd mo large ll dl f (nxM ll xs p).2.2 (o ++ [(nxM ll xs p).1]) (st + 1))
    else match cpM xs wd mo large dl (nxM ll xs p).2.2 o (nxM ll xs p).1 with
      | .error e => .error e
      | .ok (p2, o2) => wdM xs wd mo large ll dl f p2 o2 (st + 1)
def fixL : List Int := List.replicate 144 8 ++ List.replicate 112 9 ++ List.replicate 24 7 ++ List.replicate 8 8
def fixD : List Int := List.replicate 32 5
/-- A block; whether it is the last. -/
noncomputable def blM (xs : List Int) (wd mo : Int) (large : Bool) (p : Nat) (o : List Int) (st : Int) : Except Int (Bool × Nat × List Int × Int) :=
  if 8 * xs.length < p + 3 then .error 3
  else if cut (V xs) (p + 1) 2 = 0 then (match plM xs mo (p + 3) o with
    | .error e => .error e
    | .ok (p2, o2, n) => .ok (decide (cut (V xs) p 1 = 1), p2, o2, st + 1 + n))
  else if cut (V xs) (p + 1) 2 = 3 then .error 4
  else match (if cut (V xs) (p + 1) 2 = 1 then Except.ok (fixL, fixD, p + 3) else rdD xs (p + 3) large) with
    | .error e => .error e
    | .ok (ll, dl, p2) => match wdM xs wd mo large ll dl (8 * xs.length + 1) p2 o (st + 1) with
      | .error e => .error e
      | .ok (p3, o3, st3) => .ok (decide (cut (V xs) p 1 = 1), p3, o3, st3)
noncomputable def dcM (xs : List Int) (wd mo : Int) (large : Bool) : Nat → Nat → List Int → Int → Except Int (Nat × List Int × Int)
  | 0, _, _, _ => .error 0
  | f + 1, p, o, st => match blM xs wd mo large p o st with
    | .error e => .error e
    | .ok (last, p2, o2, st2) => if last = true then .ok (p2, o2, st2) else dcM xs wd mo large f p2 o2 st2
def wdO (large : Bool) : Int := if large then 65536 else 32768
/-- All that bits tell, in how many steps; or why nothing. -/
noncomputable def infM (xs : List Int) (large : Bool) (size : Int) : List Int × Int × Int :=
  if size < 0 then ([], 0, 2) else match dcM xs (wdO large) size large (8 * xs.length + 1) 0 [] 0 with
  | .error e => ([], 0, e)
  | .ok (p, o, st) => if (o.length : Int) ≠ size then ([], 0, 9) else if 8 ≤ 8 * xs.length - p then ([], 0, 5) else (o, st, 0)

/-! ### Facts -/
theorem lenBd : ∀ j : Fin 28, 3 ≤ bL j.1 ∧ bL j.1 ≤ 300 ∧ eL j.1 ≤ 5 := by decide
theorem distBd : ∀ j : Fin 32, 1 ≤ bD j.1 ∧ bD j.1 ≤ 65536 ∧ eD j.1 ≤ 14 := by decide
theorem lenF_of {code : Int} {large : Bool} {a b : Int} {ok : Bool} (h : LenR code large a b ok) : (ok = false ∧ lenF code large = none) ∨ (ok = true ∧ ∃ k : Nat, b = k ∧ lenF code large = some (a, k) ∧ 3 ≤ a ∧ a ≤ 300 ∧ k ≤ 16) := by
  unfold lenF
  rcases h with ⟨h1, h2, h3, h4⟩ | ⟨h1, h2, h3, h4, h5⟩ | ⟨h1, h2, h3, h4, h5⟩ | ⟨j, h1, h2, h3, h4, h5⟩
  · exact .inl ⟨h4, if_pos h1⟩
  · exact .inr ⟨h5, 16, h4, by rw [if_neg (by omega), if_pos h1, if_pos h2, h3], by omega, by omega, by omega⟩
  · exact .inr ⟨h5, 0, h4, by rw [if_neg (by omega), if_pos h1, if_neg (by rw [h2]; simp), h3], by omega, by omega, by omega⟩
  · have hb := lenBd ⟨j, h2⟩
    have e : (code - 257).toNat = j := by omega
    exact .inr ⟨h5, eL j, h4, by rw [if_neg (by omega), if_neg (by omega), e, h3], by rw [h3]; exact hb.1, by rw [h3]; exact hb.2.1, by have : eL j ≤ 5 := hb.2.2; omega⟩
theorem distF_of {code : Int} {large : Bool} {a b : Int} {ok : Bool} (h : DistR code large a b ok) : (ok = false ∧ distF code large = none) ∨ (ok = true ∧ ∃ k : Nat, b = k ∧ distF code large = some (a, k) ∧ 1 ≤ a ∧ a ≤ 65536 ∧ k ≤ 14) := by
  unfold distF
  rcases h with ⟨h1, h2, h3, h4⟩ | ⟨j, h1, h2, h3, h4, h5, h6⟩
  · exact .inl ⟨h4, if_pos h1⟩
  · have hb := distBd ⟨j, h2⟩
    have e : code.toNat = j := by omega
    refine .inr ⟨h6, eD j, h5, ?_, by rw [h4]; exact hb.1, by rw [h4]; exact hb.2.1, hb.2.2⟩
    rw [if_neg, e, h4]
    rintro (h | h | ⟨h, k⟩)
    · omega
    · omega
    · rcases h3 with h3 | h3
      · omega
      · rw [h3] at k; cases k
/-- How much there may be. -/
def BB (xs : List Int) (mo : Int) : Prop := 0 ≤ mo ∧ mo ≤ 9223372036854775807 ∧ (mo ≤ 10000000000 ∨ xs.length ≤ 100000)
def OB (xs : List Int) (mo : Int) (p : Nat) (o : List Int) : Prop := (o.length : Int) ≤ mo ∧ (o.length : Int) ≤ 70000 * p ∧ p ≤ 8 * xs.length
theorem OB.len {xs : List Int} {mo : Int} {p : Nat} {o : List Int} (h : OB xs mo p o) (hB : BB xs mo) : o.length ≤ 60000000000 := by
  obtain ⟨h1, h2, h3⟩ := h
  obtain ⟨b1, b2, b3⟩ := hB
  omega
theorem OB.mq {xs : List Int} {mo : Int} {p : Nat} {o : List Int} (h : OB xs mo p o) (hB : BB xs mo) {n : Int} (hn : n ≤ 70000) : MQ mo n o := by
  have hl := h.len hB
  obtain ⟨h1, h2, h3⟩ := h
  obtain ⟨b1, b2, b3⟩ := hB
  exact ⟨b1, b2, by omega, fun _ => by omega⟩
theorem pow16 {k : Nat} (h : k ≤ 16) : (2 : Int) ^ k ≤ 65536 := by
  have : (2 : Nat) ^ k ≤ 2 ^ 16 := Nat.pow_le_pow_right (by decide) h
  have e : ((2 ^ k : Nat) : Int) = (2 : Int) ^ k := by push_cast; rfl
  have e2 : (2 : Nat) ^ 16 = 65536 := rfl
  omega
end Go.Sx

/- inflate: several: the contract. -/
set_option maxRecDepth 100000
set_option maxHeartbeats 4000000
set_option linter.unusedVariables false
set_option linter.unusedSimpArgs false
namespace Go.Sx
open Go.Proofs.Tryd

/-- What a copy comes to. -/
def CpR (xs : List Int) (wd mo : Int) (large : Bool) (dl : List Int) (p : Nat) (o : List Int) (code e : Int) (p' : Nat) (o' : List Int) (er' : Int) : Prop :=
  (e ≠ 0 ∧ cpM xs wd mo large dl p o code = .error e) ∨ (e = 0 ∧ er' = 0 ∧ OB xs mo p' o' ∧ p + 1 ≤ p' ∧ cpM xs wd mo large dl p o code = .ok (p', o'))
theorem CpQ_fin {xs : List Int} {wd mo : Int} {large : Bool} {dl : List Int} {p p' : Nat} {o ys : List Int} {code nn dd e : Int} {D : Except Int (Nat × List Int)}
    (hDD : D = cpM xs wd mo large dl p o code) (hd0 : D = if wd < dd ∨ (o.length : Int) < dd then .error 8 else if mo - o.length < nn then .error 9 else .ok (p', cp o dd.toNat nn.toNat))
    (hO : OB xs mo p o) (hp : p + 1 ≤ p') (hp2 : p' ≤ 8 * xs.length) (hn : 0 ≤ nn ∧ nn ≤ 70000) (hd : 1 ≤ dd) (h : CpQ wd mo false o dd nn e ys) : CpR xs wd mo large dl p o code e p' ys 0 := by
  unfold CpR
  rw [← hDD]
  rcases h with h | ⟨h1, h2, h3, h4, h5⟩ | ⟨h1, h2, h3, h4, h5, h6, h7⟩ | ⟨h1, h2, h3, h4, h5, h6, h7⟩
  · omega
  · have h3 : wd < dd ∨ (o.length : Int) < dd := by
      rcases h3 with h3 | h3
      · exact .inl h3
      · exact .inr h3.1
    rw [if_pos h3] at hd0
    exact .inl ⟨by omega, by rw [hd0, h4]⟩
  · have h4 : dd ≤ (o.length : Int) := by
      rcases h4 with h4 | h4
      · exact h4
      · cases h4
    rw [if_neg (by omega), if_pos h5] at hd0
    exact .inl ⟨by omega, by rw [hd0, h6]⟩
  · have h4 : dd ≤ (o.length : Int) := by
      rcases h4 with h4 | h4
      · exact h4
      · cases h4
    rw [if_neg (by omega), if_neg (by omega)] at hd0
    refine .inr ⟨h6, rfl, ?_, hp, by rw [hd0, h7]⟩
    obtain ⟨o1, o2, o3⟩ := hO
    have hl := cp_len dd.toNat nn.toNat o
    rw [← h7] at hl
    exact ⟨by omega, by omega, hp2⟩
theorem s_several (xs : List Int) (m p a b k ks : Nat) (at_ hold nb wd mo stI code lg : Int) (large : Bool) (o dl sy tb : List Int) (dc : List SV) (hx : RX xs m) (hF : RF xs p a b at_ hold nb) (hk : k = o.length) (hw : 0 < wd) (hB : BB xs mo) (hO : OB xs mo p o)
    (hQ : DecQ dl lg sy tb) (hD : IsDC dc true lg (cvec dl) (fvec (cvec dl)) (.lst 7 ks) tb) (hks : ks = sy.length) :
    Spec prog 75 [.ptr 0 0, .int .i64 code] [.vw [.ptr 1 0, .ptr 3 0, .bool large, .int .i64 stI, .ptr 5 0, .ptr 6 0], .box 101 [.lst 2 m, .int .i64 at_, .int .u64 hold, .int .i64 nb, .int .i64 0, .bool true], .lst 5 1 (R.ints .u8 xs), .box 98 [.int .i64 wd, .int .i64 mo, .bool false, .lst 4 k], .lst 5 1 (R.ints .u8 o), .vw [], .vw dc, .vw (R.ints .i64 sy)]
    (fun r H => ∃ (a b p' k' : Nat) (at_ hold nb er' e : Int) (o' : List Int), RF xs p' a b at_ hold nb ∧ CpR xs wd mo large dl p o code e p' o' er' ∧ k' = o'.length ∧ r = .int .i64 e ∧
      H = [.vw [.ptr 1 0, .ptr 3 0, .bool large, .int .i64 stI, .ptr 5 0, .ptr 6 0], .box 101 [.lst 2 m, .int .i64 at_, .int .u64 hold, .int .i64 nb, .int .i64 er', .bool true], .lst 5 1 (R.ints .u8 xs), .box 98 [.int .i64 wd, .int .i64 mo, .bool false, .lst 8 k'], .gone, .vw [], .vw dc, .vw (R.ints .i64 sy), .lst 5 1 (R.ints .u8 o')]) := by
  refine Spec_of_kF (D := fun i => if i = 8 then (13, [1,2]) else (0, [])) (ks := [0, 1, 4, 5, 6, 7, 8, 9, 10, 11, 12]) tok mixed (fn := f75) rfl rfl rfl (by kernel_rfl) (N := 93) rfl (rs := [.tmp 4]) rfl (Nat.le_of_ble_eq_true rfl) fun A C Kp E ag L q hA hC hK hE hag hL hq => ?_
  rw [← hA]
  obtain ⟨D, hDD⟩ : ∃ D, D = cpM xs wd mo large dl p o code := ⟨_, rfl⟩
  have hd0 := hDD
  unfold cpM at hd0
  have hnt : A.not true = false := by rw [notA hA]; rfl
  have hnf : A.not false = true := by rw [notA hA]; rfl
  have hpl := hF.le
  cbv
  (try simp only [ncast] at *)
  refine call_length hC fun la bI ok hL => ?_
  rcases lenF_of hL with ⟨rfl, hLF⟩ | ⟨rfl, n1, hbI, hLF, la1, la2, hn1⟩
  · rw [hLF] at hd0
    dsimp only at hd0
    cbv
    (try simp only [ncast] at *)
    simp only [hnf]
    cbv
    (try simp only [ncast] at *)
    subst hA hq
    have hrd : cpM xs wd mo large dl p o code = .error 7 := by rw [← hDD]; exact hd0
    refine Fin_of ⟨[(4, .int .i64 7)], [.vw [.ptr 1 0, .ptr 3 0, .bool large, .int .i64 stI, .ptr 5 0, .ptr 6 0], .box 101 [.lst 2 m, .int .i64 at_, .int .u64 hold, .int .i64 nb, .int .i64 0, .bool true], .lst 5 1 (R.ints .u8 xs), .box 98 [.int .i64 wd, .int .i64 mo, .bool false, .lst 8 k], .gone, .vw [], .vw dc, .vw (R.ints .i64 sy), .lst 5 1 (R.ints .u8 o)]⟩ ?_ ⟨a, b, p, k, at_, hold, nb, 0, 7, o, hF, .inl ⟨by omega, hrd⟩, hk, rfl, rfl⟩
    have dc0 : ∀ (N : Nat) (H1 : List Ck), 7 < N → H1[6]? = some (.vw dc) → subC 8 N [0, 1, 2, 3, 4, 5, 6, 7, 4] H1 6 6 (.vw dc) := fun N H1 hN h => dc_v hD hN rfl h
    exact Sc [0, 1, 2, 3, 4, 5, 6, 7, 4] (by repeat' (first | exact dc0 _ _ (Nat.le_of_ble_eq_true rfl) rfl | exact trivial | exact fun _ => rfl | exact fun h => absurd h (by simp) | exact subC_ints rfl | refine And.intro ?_ ?_ | rfl | (simp [subH_nil, hLts, hLt, renCk, renC, sg, Ck.cells, R_ints_ren, R_ints_hLts]; done)))
  · rw [hLF] at hd0
    dsimp only at hd0
    cbv
    (try simp only [ncast] at *)
    simp only [hnt]
    cbv
    (try simp only [ncast] at *)
    refine call_bits hC hA (hb := 1) (hr := 2) (n := bI) hx hF (by decide) rfl rfl fun a1 b1 p1 at1 hold1 nb1 er1 z hF1 hB1 => ?_
    have e1 : bI.toNat = n1 := by omega
    rcases bits0 rfl (by omega) hB1 with ⟨h1, h2, h3, h4⟩ | ⟨h1, h2, h3, h4⟩
    · subst h3
      rw [e1] at h1
      rw [if_pos (by omega)] at hd0
      cbv
      (try simp only [ncast] at *)
      refine call_err hC (hb := 1) (hr := 2) rfl (by show 2 < 8; omega) ?_
      cbv
      (try simp only [ncast] at *)
      refine ifT (by simp only [neqA hA]; simp) fun h => ?_
      (try rw [h]); clear h
      cbv
      (try simp only [ncast] at *)
      subst hA hq
      have hrd : cpM xs wd mo large dl p o code = .error 3 := by rw [← hDD]; exact hd0
      refine Fin_of ⟨[(4, .int .i64 3)], [.vw [.ptr 1 0, .ptr 3 0, .bool large, .int .i64 stI, .ptr 5 0, .ptr 6 0], .box 101 [.lst 2 m, .int .i64 at1, .int .u64 hold1, .int .i64 nb1, .int .i64 3, .bool true], .lst 5 1 (R.ints .u8 xs), .box 98 [.int .i64 wd, .int .i64 mo, .bool false, .lst 8 k], .gone, .vw [], .vw dc, .vw (R.ints .i64 sy), .lst 5 1 (R.ints .u8 o)]⟩ ?_ ⟨a1, b1, p1, k, at1, hold1, nb1, 3, 3, o, hF1, .inl ⟨by omega, hrd⟩, hk, rfl, rfl⟩
      have dc0 : ∀ (N : Nat) (H1 : List Ck), 7 < N → H1[6]? = some (.vw dc) → subC 8 N [0, 1, 2, 3, 4, 5, 6, 7, 4] H1 6 6 (.vw dc) := fun N H1 hN h => dc_v hD hN rfl h
      exact Sc [0, 1, 2, 3, 4, 5, 6, 7, 4] (by repeat' (first | exact dc0 _ _ (Nat.le_of_ble_eq_true rfl) rfl | exact trivial | exact fun _ => rfl | exact fun h => absurd h (by simp) | exact subC_ints rfl | refine And.intro ?_ ?_ | rfl | (simp [subH_nil, hLts, hLt, renCk, renC, sg, Ck.cells, R_ints_ren, R_ints_hLts]; done)))
    · subst h3
      rw [e1] at h1 h2 h4
      rw [if_neg (by omega), ← h2, ← h4] at hd0
      have hzb := cut_b (V xs) p (n := n1)
      have hpw := pow16 (show n1 ≤ 16 by omega)
      rw [← h2] at hzb
      clear hB1 h2
      obtain ⟨nn, hnn⟩ : ∃ v, v = la + z := ⟨_, rfl⟩
      rw [← hnn] at hd0
      have w1 : A.wrap .i64 z = z := by rw [wrapA hA, wrap64 (by omega)]
      have x1 : A.bin .add .i64 la z = nn := by rw [addA hA, wrap64 (by omega), hnn]
      cbv
      (try simp only [ncast] at *)
      simp only [w1, x1]
      refine call_err hC (hb := 1) (hr := 2) rfl (by show 2 < 8; omega) ?_
      cbv
      (try simp only [ncast] at *)
      refine ifF (by simp only [neqA hA]; simp) fun h => ?_
      (try rw [h]); clear h
      cbv
      (try simp only [ncast] at *)
      refine call_cnext hC hA (hd := 6) (hs := 7) (hb := 1) (hr := 2) hQ hD hks hx hF1 (by decide) (cells_vwD rfl hD.len) (cells_vwA hA rfl hks) rfl rfl fun a2 b2 p2 at2 hold2 nb2 y e hF2 hN => ?_
      rw [hQ.long] at hN
      have hnx := nxM_of hQ.lens hN
      rw [hnx] at hd0
      dsimp only at hd0
      have hok := NextQ_ok hQ.lens hN
      clear hN hF1
      cbv
      (try simp only [ncast] at *)
      refine ifB_intro (fun h => ?_) (fun h => ?_)
      · have he := h
        (try simp only [wA hA] at he)
        (try rw [h]); clear h
        cbv
        (try simp only [ncast] at *)
        rw [if_pos he] at hd0
        subst hA hq
        have hrd : cpM xs wd mo large dl p o code = .error e := by rw [← hDD]; exact hd0
        refine Fin_of ⟨[(4, .int .i64 e)], [.vw [.ptr 1 0, .ptr 3 0, .bool large, .int .i64 stI, .ptr 5 0, .ptr 6 0], .box 101 [.lst 2 m, .int .i64 at2, .int .u64 hold2, .int .i64 nb2, .int .i64 0, .bool true], .lst 5 1 (R.ints .u8 xs), .box 98 [.int .i64 wd, .int .i64 mo, .bool false, .lst 8 k], .gone, .vw [], .vw dc, .vw (R.ints .i64 sy), .lst 5 1 (R.ints .u8 o)]⟩ ?_ ⟨a2, b2, p2, k, at2, hold2, nb2, 0, e, o, hF2, .inl ⟨by omega, hrd⟩, hk, rfl, rfl⟩
        have dc0 : ∀ (N : Nat) (H1 : List Ck), 7 < N → H1[6]? = some (.vw dc) → subC 8 N [0, 1, 2, 3, 4, 5, 6, 7, 4] H1 6 6 (.vw dc) := fun N H1 hN h => dc_v hD hN rfl h
        exact Sc [0, 1, 2, 3, 4, 5, 6, 7, 4] (by repeat' (first | exact dc0 _ _ (Nat.le_of_ble_eq_true rfl) rfl | exact trivial | exact fun _ => rfl | exact fun h => absurd h (by simp) | exact subC_ints rfl | refine And.intro ?_ ?_ | rfl | (simp [subH_nil, hLts, hLt, renCk, renC, sg, Ck.cells, R_ints_ren, R_ints_hLts]; done)))
      · have he := h
        (try simp only [wA hA] at he)
        (try rw [h]); clear h
        cbv
        (try simp only [ncast] at *)
        rw [if_neg (by omega)] at hd0
        obtain ⟨hy0, hyl, hp12, hp2l⟩ := hok (by omega)
        refine call_distance hC fun da b2I ok2 hL2 => ?_
        rcases distF_of hL2 with ⟨rfl, hLF2⟩ | ⟨rfl, n2, hb2I, hLF2, da1, da2, hn2⟩
        · rw [hLF2] at hd0
          dsimp only at hd0
          cbv
          (try simp only [ncast] at *)
          simp only [hnf]
          cbv
          (try simp only [ncast] at *)
          subst hA hq
          have hrd : cpM xs wd mo large dl p o code = .error 7 := by rw [← hDD]; exact hd0
          refine Fin_of ⟨[(4, .int .i64 7)], [.vw [.ptr 1 0, .ptr 3 0, .bool large, .int .i64 stI, .ptr 5 0, .ptr 6 0], .box 101 [.lst 2 m, .int .i64 at2, .int .u64 hold2, .int .i64 nb2, .int .i64 0, .bool true], .lst 5 1 (R.ints .u8 xs), .box 98 [.int .i64 wd, .int .i64 mo, .bool false, .lst 8 k], .gone, .vw [], .vw dc, .vw (R.ints .i64 sy), .lst 5 1 (R.ints .u8 o)]⟩ ?_ ⟨a2, b2, p2, k, at2, hold2, nb2, 0, 7, o, hF2, .inl ⟨by omega, hrd⟩, hk, rfl, rfl⟩
          have dc0 : ∀ (N : Nat) (H1 : List Ck), 7 < N → H1[6]? = some (.vw dc) → subC 8 N [0, 1, 2, 3, 4, 5, 6, 7, 4] H1 6 6 (.vw dc) := fun N H1 hN h => dc_v hD hN rfl h
          exact Sc [0, 1, 2, 3, 4, 5, 6, 7, 4] (by repeat' (first | exact dc0 _ _ (Nat.le_of_ble_eq_true rfl) rfl | exact trivial | exact fun _ => rfl | exact fun h => absurd h (by simp) | exact subC_ints rfl | refine And.intro ?_ ?_ | rfl | (simp [subH_nil, hLts, hLt, renCk, renC, sg, Ck.cells, R_ints_ren, R_ints_hLts]; done)))
        · rw [hLF2] at hd0
          dsimp only at hd0
          cbv
          (try simp only [ncast] at *)
          simp only [hnt]
          cbv
          (try simp only [ncast] at *)
          refine call_bits hC hA (hb := 1) (hr := 2) (n := b2I) hx hF2 (by decide) rfl rfl fun a3 b3 p3 at3 hold3 nb3 er3 z2 hF3 hB3 => ?_
          have e2 : b2I.toNat = n2 := by omega
          rcases bits0 rfl (by omega) hB3 with ⟨h5, h6, h7, h8⟩ | ⟨h5, h6, h7, h8⟩
          · subst h7
            rw [e2] at h5
            rw [if_pos (by omega)] at hd0
            cbv
            (try simp only [ncast] at *)
            refine call_err hC (hb := 1) (hr := 2) rfl (by show 2 < 8; omega) ?_
            cbv
            (try simp only [ncast] at *)
            refine ifT (by simp only [neqA hA]; simp) fun h => ?_
            (try rw [h]); clear h
            cbv
            (try simp only [ncast] at *)
            subst hA hq
            have hrd : cpM xs wd mo large dl p o code = .error 3 := by rw [← hDD]; exact hd0
            refine Fin_of ⟨[(4, .int .i64 3)], [.vw [.ptr 1 0, .ptr 3 0, .bool large, .int .i64 stI, .ptr 5 0, .ptr 6 0], .box 101 [.lst 2 m, .int .i64 at3, .int .u64 hold3, .int .i64 nb3, .int .i64 3, .bool true], .lst 5 1 (R.ints .u8 xs), .box 98 [.int .i64 wd, .int .i64 mo, .bool false, .lst 8 k], .gone, .vw [], .vw dc, .vw (R.ints .i64 sy), .lst 5 1 (R.ints .u8 o)]⟩ ?_ ⟨a3, b3, p3, k, at3, hold3, nb3, 3, 3, o, hF3, .inl ⟨by omega, hrd⟩, hk, rfl, rfl⟩
            have dc0 : ∀ (N : Nat) (H1 : List Ck), 7 < N → H1[6]? = some (.vw dc) → subC 8 N [0, 1, 2, 3, 4, 5, 6, 7, 4] H1 6 6 (.vw dc) := fun N H1 hN h => dc_v hD hN rfl h
            exact Sc [0, 1, 2, 3, 4, 5, 6, 7, 4] (by repeat' (first | exact dc0 _ _ (Nat.le_of_ble_eq_true rfl) rfl | exact trivial | exact fun _ => rfl | exact fun h => absurd h (by simp) | exact subC_ints rfl | refine And.intro ?_ ?_ | rfl | (simp [subH_nil, hLts, hLt, renCk, renC, sg, Ck.cells, R_ints_ren, R_ints_hLts]; done)))
          · subst h7
            rw [e2] at h5 h6 h8
            rw [if_neg (by omega), ← h6, ← h8] at hd0
            have hzb2 := cut_b (V xs) p2 (n := n2)
            have hpw2 := pow16 (show n2 ≤ 16 by omega)
            rw [← h6] at hzb2
            clear hB3 h6 hF2
            obtain ⟨dd, hdd⟩ : ∃ v, v = da + z2 := ⟨_, rfl⟩
            rw [← hdd] at hd0
            have w2 : A.wrap .i64 z2 = z2 := by rw [wrapA hA, wrap64 (by omega)]
            have x2 : A.bin .add .i64 da z2 = dd := by rw [addA hA, wrap64 (by omega), hdd]
            cbv
            (try simp only [ncast] at *)
            simp only [w2, x2]
            refine call_err hC (hb := 1) (hr := 2) rfl (by show 2 < 8; omega) ?_
            cbv
            (try simp only [ncast] at *)
            refine ifF (by simp only [neqA hA]; simp) fun h => ?_
            (try rw [h]); clear h
            cbv
            (try simp only [ncast] at *)
            refine call_copy hC hA (hb := 3) (hr := 4) hk (hO.mq hB (by omega)) hw (by decide) rfl rfl fun e3 k3 ys hCp hk3 => ?_
            have hR := CpQ_fin hDD hd0 hO (show p + 1 ≤ p3 by omega) (by omega) (by omega) (by omega) hCp
            clear hCp
            cbv
            (try simp only [ncast] at *)
            subst hA hq
            refine Fin_of ⟨[(4, .int .i64 e3)], [.vw [.ptr 1 0, .ptr 3 0, .bool large, .int .i64 stI, .ptr 5 0, .ptr 6 0], .box 101 [.lst 2 m, .int .i64 at3, .int .u64 hold3, .int .i64 nb3, .int .i64 0, .bool true], .lst 5 1 (R.ints .u8 xs), .box 98 [.int .i64 wd, .int .i64 mo, .bool false, .lst 8 k3], .gone, .vw [], .vw dc, .vw (R.ints .i64 sy), .lst 5 1 (R.ints .u8 ys)]⟩ ?_ ⟨a3, b3, p3, k3, at3, hold3, nb3, 0, e3, ys, hF3, hR, hk3, rfl, rfl⟩
            have dc0 : ∀ (N : Nat) (H1 : List Ck), 7 < N → H1[6]? = some (.vw dc) → subC 8 N [0, 1, 2, 3, 4, 5, 6, 7, 8] H1 6 6 (.vw dc) := fun N H1 hN h => dc_v hD hN rfl h
            exact Sc [0, 1, 2, 3, 4, 5, 6, 7, 8] (by repeat' (first | exact dc0 _ _ (Nat.le_of_ble_eq_true rfl) rfl | exact trivial | exact fun _ => rfl | exact fun h => absurd h (by simp) | exact subC_ints rfl | refine And.intro ?_ ?_ | rfl | (simp [subH_nil, hLts, hLt, renCk, renC, sg, Ck.cells, R_ints_ren, R_ints_hLts]; done)))
end Go.Sx

/- inflate: words: the contract. -/
set_option maxRecDepth 100000
set_option maxHeartbeats 4000000
set_option linter.unusedVariables false
set_option linter.unusedSimpArgs false
namespace Go.Sx
open Go.Proofs.Tryd

theorem cells_nil {H : List Ck} {j : Nat} (h : j < H.length) : cellsAt H j 0 0 = some [] := by
  rw [cellsAt_eq (List.getElem?_eq_getElem h) (by simp)]; rfl
theorem wdM_step {xs : List Int} {wd mo : Int} {large : Bool} {ll dl : List Int} {f p : Nat} {o : List Int} {st : Int} (hf : 0 < f) : wdM xs wd mo large ll dl f p o st = if (nxM ll xs p).2.1 ≠ 0 then .error (nxM ll xs p).2.1
    else if (nxM ll xs p).1 = 256 then .ok ((nxM ll xs p).2.2, o, st + 1)
    else if (nxM ll xs p).1 < 256 then (if (o.length : Int) = mo then .error 9 else wdM xs wd mo large ll dl (f - 1) (nxM ll xs p).2.2 (o ++ [(nxM ll xs p).1]) (st + 1))
    else match cpM xs wd mo large dl (nxM ll xs p).2.2 o (nxM ll xs p).1 with
      | .error e => .error e
      | .ok (p2, o2) => wdM xs wd mo large ll dl (f - 1) p2 o2 (st + 1) := by
  obtain ⟨g, rfl⟩ : ∃ g, f = g + 1 := ⟨f - 1, by omega⟩
  rw [wdM]
  rfl
/-- What a block's words come to. -/
def WdR (xs : List Int) (wd mo : Int) (large : Bool) (ll dl : List Int) (p : Nat) (o : List Int) (st e : Int) (p' : Nat) (o' : List Int) (st' er' : Int) : Prop :=
  (e ≠ 0 ∧ wdM xs wd mo large ll dl (8 * xs.length + 1) p o st = .error e) ∨ (e = 0 ∧ er' = 0 ∧ OB xs mo p' o' ∧ p + 1 ≤ p' ∧ 0 ≤ st' ∧ st' ≤ p' ∧ wdM xs wd mo large ll dl (8 * xs.length + 1) p o st = .ok (p', o', st'))
/-- All chunks, behind. -/
def wdH (A : Ar) (large : Bool) (m k : Nat) (st at_ hold nb er : Int) (xs o : List Int) (wd mo : Int) (dc1 dc2 : List SV) (sy1 sy2 : List Int) : List Ck :=
  [.box 63 [.ptr 1 0, .ptr 3 0, .bool large, .int .i64 st, .ptr 5 0, .ptr 7 0], .box 101 [.lst 2 m, .int .i64 at_, .int .u64 hold, .int .i64 nb, .int .i64 er, .bool true], .lst 5 1 (A.ints .u8 xs), .box 98 [.int .i64 wd, .int .i64 mo, .bool false, .lst 9 k], .gone, .vw dc1, .vw (A.ints .i64 sy1), .vw dc2, .vw (A.ints .i64 sy2), .lst 5 1 (A.ints .u8 o)]
theorem s_words (xs : List Int) (m p a b k ks1 ks2 : Nat) (at_ hold nb wd mo st lg1 lg2 : Int) (large : Bool) (o ll dl sy1 tb1 sy2 tb2 : List Int) (dc1 dc2 : List SV) (hx : RX xs m) (hF : RF xs p a b at_ hold nb) (hk : k = o.length) (hw : 0 < wd) (hB : BB xs mo) (hO : OB xs mo p o) (hst : 0 ≤ st ∧ st ≤ p)
    (hQ1 : DecQ ll lg1 sy1 tb1) (hD1 : IsDC dc1 true lg1 (cvec ll) (fvec (cvec ll)) (.lst 6 ks1) tb1) (hks1 : ks1 = sy1.length)
    (hQ2 : DecQ dl lg2 sy2 tb2) (hD2 : IsDC dc2 true lg2 (cvec dl) (fvec (cvec dl)) (.lst 8 ks2) tb2) (hks2 : ks2 = sy2.length) :
    Spec prog 53 [.ptr 0 0] [.box 63 [.ptr 1 0, .ptr 3 0, .bool large, .int .i64 st, .ptr 5 0, .ptr 7 0], .box 101 [.lst 2 m, .int .i64 at_, .int .u64 hold, .int .i64 nb, .int .i64 0, .bool true], .lst 5 1 (R.ints .u8 xs), .box 98 [.int .i64 wd, .int .i64 mo, .bool false, .lst 4 k], .lst 5 1 (R.ints .u8 o), .vw dc1, .vw (R.ints .i64 sy1), .vw dc2, .vw (R.ints .i64 sy2)]
    (fun r H => ∃ (a b p' k' : Nat) (at_ hold nb er' st' e : Int) (o' : List Int), RF xs p' a b at_ hold nb ∧ WdR xs wd mo large ll dl p o st e p' o' st' er' ∧ k' = o'.length ∧ r = .int .i64 e ∧
      H = wdH R large m k' st' at_ hold nb er' xs o' wd mo dc1 dc2 sy1 sy2) := by
  refine Spec_of_kF (D := fun i => if i = 1 then (13, [1,2]) else (0, [])) (ks := [0, 2, 3, 4]) tok mixed (fn := f53) rfl rfl rfl (by kernel_rfl) (N := 46) rfl (rs := [.tmp 2]) rfl (Nat.le_of_ble_eq_true rfl) fun A C Kp E ag L q hA hC hK hE hag hL hq => ?_
  rw [← hA]
  cbv
  obtain ⟨M0, hM0⟩ : ∃ M, M = wdM xs wd mo large ll dl (8 * xs.length + 1) p o st := ⟨_, rfl⟩
  obtain ⟨ps, hps0⟩ : ∃ q : Nat, q = p := ⟨_, rfl⟩
  have hxl : xs.length ≤ 1000000000000 := hx.2.2
  rw [hL]
  refine ⟨fun kk s => ∃ (f p a b k : Nat) (at_ hold nb st : Int) (o : List Int), M0 = wdM xs wd mo large ll dl f p o st ∧ ps ≤ p ∧ 8 * xs.length < f + p ∧ OB xs mo p o ∧ 0 ≤ st ∧ st ≤ p ∧ k = o.length ∧ RF xs p a b at_ hold nb ∧ kk = 8 * xs.length + 1 - p ∧
      s = ⟨[(0, .ptr 0 0)], wdH A large m k st at_ hold nb 0 xs o wd mo dc1 dc2 sy1 sy2⟩,
    ⟨_, ⟨[(0, .ptr 0 0)], wdH A large m k st at_ hold nb 0 xs o wd mo dc1 dc2 sy1 sy2⟩, ?_, 8 * xs.length + 1, p, a, b, k, at_, hold, nb, st, o, hM0, by omega, by omega, hO, hst.1, hst.2, hk, hF, rfl, rfl⟩, ?_⟩
  · subst hA
    unfold wdH
    have dc0 : ∀ (N : Nat) (H1 : List Ck), 8 < N → H1[5]? = some (.vw dc1) → subC 9 N [0, 1, 2, 3, 4, 5, 6, 7, 8, 4] H1 5 5 (.vw dc1) := fun N H1 hN h => dc_v hD1 (by omega) rfl h
    have dc1 : ∀ (N : Nat) (H1 : List Ck), 8 < N → H1[7]? = some (.vw dc2) → subC 9 N [0, 1, 2, 3, 4, 5, 6, 7, 8, 4] H1 7 7 (.vw dc2) := fun N H1 hN h => dc_v hD2 (by omega) rfl h
    exact Sc [0, 1, 2, 3, 4, 5, 6, 7, 8, 4] (by repeat' (first | exact dc0 _ _ (Nat.le_of_ble_eq_true rfl) rfl | exact dc1 _ _ (Nat.le_of_ble_eq_true rfl) rfl | exact trivial | exact fun _ => rfl | exact fun h => absurd h (by simp) | exact subC_ints rfl | refine And.intro ?_ ?_ | rfl | (simp [subH_nil, hLts, hLt, renCk, renC, sg, Ck.cells, R_ints_ren, R_ints_hLts]; done)))
  clear hF hO hst hk
  rintro kk _ ⟨f, p1, a1, b1, k1, at1, hold1, nb1, st1, o1, hM, hps, hf, hO, hst0, hst1, hk, hF, hkk, rfl⟩
  have hstep := wdM_step (xs := xs) (wd := wd) (mo := mo) (large := large) (ll := ll) (dl := dl) (f := f) (p := p1) (o := o1) (st := st1) (by have := hO.2.2; omega)
  rw [← hM] at hstep
  clear hM
  have hp1l := hO.2.2
  cbv
  (try simp only [ncast] at *)
  refine call_cnext hC hA (hd := 5) (hs := 6) (hb := 1) (hr := 2) hQ1 hD1 hks1 hx hF (by decide) (cells_vwD rfl hD1.len) (cells_vwA hA rfl hks1) rfl rfl fun a2 b2 p2 at2 hold2 nb2 y e hF2 hN => ?_
  rw [hQ1.long] at hN
  rw [nxM_of hQ1.lens hN] at hstep
  dsimp only at hstep
  have hok := NextQ_ok hQ1.lens hN
  clear hN hF
  obtain ⟨st2, hst2⟩ : ∃ v, v = st1 + 1 := ⟨_, rfl⟩
  have e1 : A.bin .add .i64 st1 1 = st2 := by rw [addA hA, wrap64 (by omega), hst2]
  rw [← hst2] at hstep
  cbv
  (try simp only [ncast] at *)
  refine ifB_intro (fun h => ?_) (fun h => ?_)
  · have he := h
    (try simp only [wA hA] at he)
    (try rw [h]); clear h
    cbv
    (try simp only [ncast] at *)
    rw [if_pos he] at hstep
    have hW : WdR xs wd mo large ll dl p o st e p2 o1 st1 0 := .inl ⟨he, by rw [← hM0]; exact hstep⟩
    subst hA hq
    refine Fin_of ⟨[(2, .int .i64 e)], wdH R large m k1 st1 at2 hold2 nb2 0 xs o1 wd mo dc1 dc2 sy1 sy2⟩ ?_ ⟨a2, b2, p2, k1, at2, hold2, nb2, 0, st1, e, o1, hF2, hW, hk, rfl, rfl⟩
    unfold wdH
    have dc0 : ∀ (N : Nat) (H1 : List Ck), 8 < N → H1[5]? = some (.vw dc1) → subC 9 N [0, 1, 2, 3, 4, 5, 6, 7, 8, 9] H1 5 5 (.vw dc1) := fun N H1 hN h => dc_v hD1 (by omega) rfl h
    have dc1 : ∀ (N : Nat) (H1 : List Ck), 8 < N → H1[7]? = some (.vw dc2) → subC 9 N [0, 1, 2, 3, 4, 5, 6, 7, 8, 9] H1 7 7 (.vw dc2) := fun N H1 hN h => dc_v hD2 (by omega) rfl h
    exact Sc [0, 1, 2, 3, 4, 5, 6, 7, 8, 9] (by repeat' (first | exact dc0 _ _ (Nat.le_of_ble_eq_true rfl) rfl | exact dc1 _ _ (Nat.le_of_ble_eq_true rfl) rfl | exact trivial | exact fun _ => rfl | exact fun h => absurd h (by simp) | exact subC_ints rfl | refine And.intro ?_ ?_ | rfl | (simp [subH_nil, hLts, hLt, renCk, renC, sg, Ck.cells, R_ints_ren, R_ints_hLts]; done)))
  · have he := h
    (try simp only [wA hA] at he)
    (try rw [h]); clear h
    cbv
    (try simp only [ncast] at *)
    rw [if_neg (by omega)] at hstep
    obtain ⟨hy0, hyl, hp12, hp2l⟩ := hok (by omega)
    clear hok
    simp only [e1]
    refine ifB_intro (fun h => ?_) (fun h => ?_)
    · have h256 := h
      (try simp only [wA hA] at h256)
      (try rw [h]); clear h
      cbv
      (try simp only [ncast] at *)
      rw [if_neg (by omega), if_pos h256] at hstep
      have hwy : A.wrap .u8 y = y := by rw [wrapA hA, Go.IntKind.wrap_u8]; omega
      cbv
      (try simp only [ncast] at *)
      simp only [hwy]
      refine call_lit hC hA (hb := 3) (hr := 9) hk (by have := hO.len hB; omega) hw (by decide) rfl rfl fun e3 k3 ys hLi hk3 => ?_
      cbv
      (try simp only [ncast] at *)
      rcases hLi with ⟨h1, h2, h3⟩ | ⟨h1, h2, h3⟩
      · rw [if_pos h1] at hstep
        subst h2
        refine ifT (by simp only [neqA hA]; simp) fun h => ?_
        (try rw [h]); clear h
        cbv
        (try simp only [ncast] at *)
        have hW : WdR xs wd mo large ll dl p o st 9 p2 ys st2 0 := .inl ⟨by omega, by rw [← hM0]; exact hstep⟩
        subst hA hq
        refine Fin_of ⟨[(2, .int .i64 9)], wdH R large m k3 st2 at2 hold2 nb2 0 xs ys wd mo dc1 dc2 sy1 sy2⟩ ?_ ⟨a2, b2, p2, k3, at2, hold2, nb2, 0, st2, 9, ys, hF2, hW, hk3, rfl, rfl⟩
        unfold wdH
        have dc0 : ∀ (N : Nat) (H1 : List Ck), 8 < N → H1[5]? = some (.vw dc1) → subC 9 N [0, 1, 2, 3, 4, 5, 6, 7, 8, 10] H1 5 5 (.vw dc1) := fun N H1 hN h => dc_v hD1 (by omega) rfl h
        have dc1 : ∀ (N : Nat) (H1 : List Ck), 8 < N → H1[7]? = some (.vw dc2) → subC 9 N [0, 1, 2, 3, 4, 5, 6, 7, 8, 10] H1 7 7 (.vw dc2) := fun N H1 hN h => dc_v hD2 (by omega) rfl h
        exact Sc [0, 1, 2, 3, 4, 5, 6, 7, 8, 10] (by repeat' (first | exact dc0 _ _ (Nat.le_of_ble_eq_true rfl) rfl | exact dc1 _ _ (Nat.le_of_ble_eq_true rfl) rfl | exact trivial | exact fun _ => rfl | exact fun h => absurd h (by simp) | exact subC_ints rfl | refine And.intro ?_ ?_ | rfl | (simp [subH_nil, hLts, hLt, renCk, renC, sg, Ck.cells, R_ints_ren, R_ints_hLts]; done)))
      · rw [if_neg h1, ← h3] at hstep
        subst h2
        refine ifF (by simp only [neqA hA]; simp) fun h => ?_
        (try rw [h]); clear h
        cbv
        (try simp only [ncast] at *)
        have hyl2 : ys.length = o1.length + 1 := by rw [h3]; simp
        have hO2 : OB xs mo p2 ys := by
          obtain ⟨o1, o2, o3⟩ := hO
          exact ⟨by omega, by omega, hp2l⟩
        subst hag
        refine ⟨8 * xs.length + 1 - p2, ⟨[(0, .ptr 0 0)], wdH A large m k3 st2 at2 hold2 nb2 0 xs ys wd mo dc1 dc2 sy1 sy2⟩, by omega, ?_, f - 1, p2, a2, b2, k3, at2, hold2, nb2, st2, ys, hstep, by omega, by omega, hO2, by omega, by omega, hk3, hF2, rfl, rfl⟩
        subst hA
        unfold wdH
        have dc0 : ∀ (N : Nat) (H1 : List Ck), 8 < N → H1[5]? = some (.vw dc1) → subC 9 N [0, 1, 2, 3, 4, 5, 6, 7, 8, 10] H1 5 5 (.vw dc1) := fun N H1 hN h => dc_v hD1 (by omega) rfl h
        have dc1 : ∀ (N : Nat) (H1 : List Ck), 8 < N → H1[7]? = some (.vw dc2) → subC 9 N [0, 1, 2, 3, 4, 5, 6, 7, 8, 10] H1 7 7 (.vw dc2) := fun N H1 hN h => dc_v hD2 (by omega) rfl h
        exact Sc [0, 1, 2, 3, 4, 5, 6, 7, 8, 10] (by repeat' (first | exact dc0 _ _ (Nat.le_of_ble_eq_true rfl) rfl | exact dc1 _ _ (Nat.le_of_ble_eq_true rfl) rfl | exact trivial | exact fun _ => rfl | exact fun h => absurd h (by simp) | exact subC_ints rfl | refine And.intro ?_ ?_ | rfl | (simp [subH_nil, hLts, hLt, renCk, renC, sg, Ck.cells, R_ints_ren, R_ints_hLts]; done)))
    · have h256 := h
      (try simp only [wA hA] at h256)
      (try rw [h]); clear h
      cbv
      (try simp only [ncast] at *)
      refine ifB_intro (fun h => ?_) (fun h => ?_)
      · have h2 := h
        (try simp only [wA hA] at h2)
        (try rw [h]); clear h
        cbv
        (try simp only [ncast] at *)
        rw [if_pos h2] at hstep
        have hO2 : OB xs mo p2 o1 := by
          obtain ⟨o1, o2, o3⟩ := hO
          exact ⟨o1, by omega, hp2l⟩
        have hW : WdR xs wd mo large ll dl p o st 0 p2 o1 st2 0 := .inr ⟨rfl, rfl, hO2, by omega, by omega, by omega, by rw [← hM0]; exact hstep⟩
        subst hA hq
        refine Fin_of ⟨[(2, .int .i64 0)], wdH R large m k1 st2 at2 hold2 nb2 0 xs o1 wd mo dc1 dc2 sy1 sy2⟩ ?_ ⟨a2, b2, p2, k1, at2, hold2, nb2, 0, st2, 0, o1, hF2, hW, hk, rfl, rfl⟩
        unfold wdH
        have dc0 : ∀ (N : Nat) (H1 : List Ck), 8 < N → H1[5]? = some (.vw dc1) → subC 9 N [0, 1, 2, 3, 4, 5, 6, 7, 8, 9] H1 5 5 (.vw dc1) := fun N H1 hN h => dc_v hD1 (by omega) rfl h
        have dc1 : ∀ (N : Nat) (H1 : List Ck), 8 < N → H1[7]? = some (.vw dc2) → subC 9 N [0, 1, 2, 3, 4, 5, 6, 7, 8, 9] H1 7 7 (.vw dc2) := fun N H1 hN h => dc_v hD2 (by omega) rfl h
        exact Sc [0, 1, 2, 3, 4, 5, 6, 7, 8, 9] (by repeat' (first | exact dc0 _ _ (Nat.le_of_ble_eq_true rfl) rfl | exact dc1 _ _ (Nat.le_of_ble_eq_true rfl) rfl | exact trivial | exact fun _ => rfl | exact fun h => absurd h (by simp) | exact subC_ints rfl | refine And.intro ?_ ?_ | rfl | (simp [subH_nil, hLts, hLt, renCk, renC, sg, Ck.cells, R_ints_ren, R_ints_hLts]; done)))
      · have h2 := h
        (try simp only [wA hA] at h2)
        (try rw [h]); clear h
        cbv
        (try simp only [ncast] at *)
        rw [if_neg h2, if_neg (by omega)] at hstep
        have hO2 : OB xs mo p2 o1 := by
          obtain ⟨o1, o2, o3⟩ := hO
          exact ⟨o1, by omega, hp2l⟩
        have hD2' := hD2.setS (.lst 7 ks2)
        have hS := s_several xs m p2 a2 b2 k1 ks2 at2 hold2 nb2 wd mo st2 y lg2 large o1 dl sy2 tb2 _ hx hF2 hk hw hB hO2 hQ2 hD2' hks2
        rw [← hA] at hS
        have hm := hD2'.mapR (linkOf 10 [(0, 0, false), (1, 0, true), (2, 0, true), (3, 0, true), (9, 0, true), (5, 0, false), (7, 0, false), (8, 0, false)])
        have hu := hm.uniq hD2
        refine cal_of hC hS [(0, 0, false), (1, 0, true), (2, 0, true), (3, 0, true), (9, 0, true), (5, 0, false), (7, 0, false), (8, 0, false)] (by simp [lkOk]) ⟨⟨(show 1 < 8 by omega), (show 3 < 8 by omega), trivial, trivial, (show 5 < 8 by omega), (show 6 < 8 by omega), trivial⟩, ⟨trivial, trivial, trivial, trivial, trivial, trivial, trivial⟩, cells_box rfl rfl,
            rfl, ⟨(show 2 < 8 by omega), trivial, trivial, trivial, trivial, trivial, trivial⟩, ⟨rfl, trivial, trivial, trivial, trivial, trivial, trivial⟩, rfl,
            rfl, hLtsA hA .., zOksA hA .., ?_,
            rfl, ⟨trivial, trivial, trivial, (show 4 < 8 by omega), trivial⟩, ⟨trivial, trivial, trivial, rfl, trivial⟩, rfl,
            rfl, hLtsA hA .., zOksA hA .., ?_,
            trivial, trivial, cells_nil (show 5 < 10 by omega),
            hD2'.hl (show 7 < 8 by omega), hD2'.zo rfl, ?_,
            hLtsA hA .., zOksA hA .., ?_, trivial⟩ ⟨⟨(show 0 < 8 by omega), trivial, rfl⟩, ⟨trivial, trivial, rfl⟩, trivial⟩ ?_
        · rw [renCk, renA hA]; rfl
        · rw [renCk, renA hA]; rfl
        · exact Eq.trans (cells_vwD (cs := dc2) rfl (hD2.len.trans hD2'.len.symm)) (congrArg some hu.symm)
        · rw [renA hA, A_ints_len hA, ← hks2]; exact cells_vwA hA rfl hks2
        rintro _ _ ⟨a3, b3, p3, k3, at3, hold3, nb3, er3, e3, o3, hF3, hCp, hk3, rfl, rfl⟩
        refine ⟨_, .int .i64 e3, [.box 63 [.ptr 1 0, .ptr 3 0, .bool large, .int .i64 st2, .ptr 5 0, .ptr 7 0], .box 101 [.lst 2 m, .int .i64 at3, .int .u64 hold3, .int .i64 nb3, .int .i64 er3, .bool true], .lst 5 1 (A.ints .u8 xs), .box 98 [.int .i64 wd, .int .i64 mo, .bool false, .lst 10 k3], .gone, .vw dc1, .vw (A.ints .i64 sy1), .vw dc2, .vw (A.ints .i64 sy2), .gone, .lst 5 1 (A.ints .u8 o3)], rfl, rfl, ?_, ?_⟩
        · simp only [backH, List.cons_append, List.nil_append, List.map_cons, List.map_nil, renCk, renA hA, ← hA, setAll, List.length_cons, List.length_nil, List.drop_succ_cons, List.drop_zero]
          rfl
        clear hS hm hu hF2
        cbv
        (try simp only [ncast] at *)
        rcases hCp with ⟨g1, g2⟩ | ⟨rfl, rfl, hO3, hp3, g3⟩
        · rw [g2] at hstep
          have hW : WdR xs wd mo large ll dl p o st e3 p3 o3 st2 er3 := .inl ⟨g1, by rw [← hM0]; exact hstep⟩
          refine ifT (by simp only [neqA hA]; simp; exact g1) fun h => ?_
          (try rw [h]); clear h
          cbv
          (try simp only [ncast] at *)
          subst hA hq
          refine Fin_of ⟨[(2, .int .i64 e3)], wdH R large m k3 st2 at3 hold3 nb3 er3 xs o3 wd mo dc1 dc2 sy1 sy2⟩ ?_ ⟨a3, b3, p3, k3, at3, hold3, nb3, er3, st2, e3, o3, hF3, hW, hk3, rfl, rfl⟩
          unfold wdH
          have dc0 : ∀ (N : Nat) (H1 : List Ck), 8 < N → H1[5]? = some (.vw dc1) → subC 9 N [0, 1, 2, 3, 4, 5, 6, 7, 8, 10] H1 5 5 (.vw dc1) := fun N H1 hN h => dc_v hD1 (by omega) rfl h
          have dc1 : ∀ (N : Nat) (H1 : List Ck), 8 < N → H1[7]? = some (.vw dc2) → subC 9 N [0, 1, 2, 3, 4, 5, 6, 7, 8, 10] H1 7 7 (.vw dc2) := fun N H1 hN h => dc_v hD2 (by omega) rfl h
          exact Sc [0, 1, 2, 3, 4, 5, 6, 7, 8, 10] (by repeat' (first | exact dc0 _ _ (Nat.le_of_ble_eq_true rfl) rfl | exact dc1 _ _ (Nat.le_of_ble_eq_true rfl) rfl | exact trivial | exact fun _ => rfl | exact fun h => absurd h (by simp) | exact subC_ints rfl | refine And.intro ?_ ?_ | rfl | (simp [subH_nil, hLts, hLt, renCk, renC, sg, Ck.cells, R_ints_ren, R_ints_hLts]; done)))
        · rw [g3] at hstep
          dsimp only at hstep
          have hp3l := hO3.2.2
          refine ifF (by simp only [neqA hA]; simp) fun h => ?_
          (try rw [h]); clear h
          cbv
          (try simp only [ncast] at *)
          subst hag
          refine ⟨8 * xs.length + 1 - p3, ⟨[(0, .ptr 0 0)], wdH A large m k3 st2 at3 hold3 nb3 0 xs o3 wd mo dc1 dc2 sy1 sy2⟩, by omega, ?_, f - 1, p3, a3, b3, k3, at3, hold3, nb3, st2, o3, hstep, by omega, by omega, hO3, by omega, by omega, hk3, hF3, rfl, rfl⟩
          subst hA
          unfold wdH
          have dc0 : ∀ (N : Nat) (H1 : List Ck), 8 < N → H1[5]? = some (.vw dc1) → subC 9 N [0, 1, 2, 3, 4, 5, 6, 7, 8, 10] H1 5 5 (.vw dc1) := fun N H1 hN h => dc_v hD1 (by omega) rfl h
          have dc1 : ∀ (N : Nat) (H1 : List Ck), 8 < N → H1[7]? = some (.vw dc2) → subC 9 N [0, 1, 2, 3, 4, 5, 6, 7, 8, 10] H1 7 7 (.vw dc2) := fun N H1 hN h => dc_v hD2 (by omega) rfl h
          exact Sc [0, 1, 2, 3, 4, 5, 6, 7, 8, 10] (by repeat' (first | exact dc0 _ _ (Nat.le_of_ble_eq_true rfl) rfl | exact dc1 _ _ (Nat.le_of_ble_eq_true rfl) rfl | exact trivial | exact fun _ => rfl | exact fun h => absurd h (by simp) | exact subC_ints rfl | refine And.intro ?_ ?_ | rfl | (simp [subH_nil, hLts, hLt, renCk, renC, sg, Ck.cells, R_ints_ren, R_ints_hLts]; done)))
end Go.Sx

/- dyn: Read: the contract. -/
set_option maxRecDepth 100000
set_option maxHeartbeats 4000000
set_option linter.unusedVariables false
set_option linter.unusedSimpArgs false
namespace Go.Sx
open Go.Proofs.Tryd

theorem win_cells {A : Ar} (hA : A = R) {H : List Ck} {h o k T sz : Nat} {xs ys : List Int} {ik : IntKind} (h4 : H[h]? = some (.lst T sz (A.ints ik xs))) (hy : ys = (xs.drop o).take k) (hk : o + k ≤ xs.length) : cellsAt H h o k = some (A.ints ik ys) := by
  subst hA hy
  rw [cellsAt_eq h4 (by show o + k ≤ (R.ints ik xs).length; rw [R_ints_length]; omega)]
  show some (((ints ik xs).drop o).take k) = some (ints ik ((xs.drop o).take k))
  unfold ints
  rw [List.map_take, List.map_drop]
section
variable {A : Ar} {C : CallT} {s : St} {κ : List Nat → SV → List Ck → Prop}
theorem call_right17 (hC : C = CallX prog) (hA : A = R) {lit dist : List Int} {h1 o1 h2 o2 a b : Nat} {large : Bool} (ha : a = lit.length) (hb : b = dist.length) (hl : lit.length ≤ 1000000) (hd : dist.length ≤ 1000000)
    (h4 : cellsAt s.H h1 o1 a = some (A.ints .i64 lit)) (h5 : cellsAt s.H h2 o2 b = some (A.ints .i64 dist)) {av : List SV} (hav : argsOk 2 (linkOf s.H.length [(h1, o1, false), (h2, o2, false)]) [.sl 0 0 a false, .sl 1 0 b false, .bool large] av)
    (hk : ∀ t, RgQ lit dist large t → κ [] (.bool t) s.H) : C 72 av s κ := by
  have hS := s_right17 lit dist a b large ha hb hl hd
  rw [← hA] at hS
  refine cal_of hC hS [(h1, o1, false), (h2, o2, false)] ⟨by simp, by simp, trivial⟩ ⟨hLtsA hA .., zOksA hA .., ?_, hLtsA hA .., zOksA hA .., ?_, trivial⟩ hav ?_
  · rw [renA hA, A_ints_len hA, ← ha]; exact h4
  · rw [renA hA, A_ints_len hA, ← hb]; exact h5
  rintro _ _ ⟨t, h1, rfl, rfl⟩
  refine ⟨_, _, s.H, rfl, rfl, ?_, hk t h1⟩
  simp [backH, setAll]
end

def RdQ (xs : List Int) (p : Nat) (large : Bool) (lit dist : List Int) (e : Int) (p' : Nat) (er' : Int) : Prop := (e ≠ 0 ∧ rdD xs p large = .error e) ∨ (e = 0 ∧ er' = 0 ∧ RgP lit dist large ∧ rdD xs p large = .ok (lit, dist, p'))
theorem s_dread [Γ : Gam] (hO : OrdK) (xs : List Int) (m p a b : Nat) (at_ hold nb : Int) (large : Bool) (hx : RX xs m) (hF : RF xs p a b at_ hold nb) :
    Spec prog 51 [.ptr 0 0, .bool large] (RdH R m at_ hold nb 0 xs) (fun r H => ∃ (a b p' ka kb : Nat) (at_ hold nb er' e : Int) (lit dist : List Int), RF xs p' a b at_ hold nb ∧ RdQ xs p large lit dist e p' er' ∧
      ((e ≠ 0 ∧ r = .tup [.nilS, .nilS, .int .i64 e] ∧ H = RdH R m at_ hold nb er' xs ++ [.gone]) ∨ (e = 0 ∧ ka = lit.length ∧ kb = dist.length ∧ r = .tup [.sl 2 0 ka true, .sl 2 ka kb false, .int .i64 0] ∧ H = RdH R m at_ hold nb er' xs ++ [.lst 3 1 (R.ints .i64 (lit ++ dist))]))) := by
  refine Spec_of_kF (D := fun i => if i = 12 then (7, []) else if i = 14 then (8, []) else (0, [])) (ks := [0, 1, 4, 5, 6, 7, 8, 9, 10, 11, 12]) tok mixed (fn := f51) rfl rfl rfl (by kernel_rfl) (N := 77) rfl (rs := [.tmp 4, .tmp 5, .tmp 6]) rfl (Nat.le_of_ble_eq_true rfl) fun A C Kp E ag L q hA hC hK hE hag hL hq => ?_
  rw [← hA]
  unfold RdH
  cbv
  (try simp only [ncast] at *)
  refine toC hC (call_bits rfl hA (hb := 0) (hr := 1) (n := 5) hx hF (by decide) rfl rfl fun a1 b1 p1 at1 hold1 nb1 er1 z1 hF1 hB1 => ?_)
  have h1 : (8 * xs.length < p + 5 ∧ er1 = 3) ∨ (p + 5 ≤ 8 * xs.length ∧ z1 = cut (V xs) p 5 ∧ er1 = 0 ∧ p1 = p + 5) := by
    rcases bits0 rfl (by omega) hB1 with h | h
    · exact .inl ⟨h.1, h.2.2.1⟩
    · exact .inr h
  clear hB1
  cbv
  (try simp only [ncast] at *)
  refine toC hC (call_bits rfl hA (hb := 0) (hr := 1) (n := 5) hx hF1 (by decide) rfl rfl fun a2 b2 p2 at2 hold2 nb2 er2 z2 hF2 hB2 => ?_)
  have h2 : (8 * xs.length < p + 10 ∧ er2 = 3) ∨ (p + 10 ≤ 8 * xs.length ∧ z1 = cut (V xs) p 5 ∧ z2 = cut (V xs) (p + 5) 5 ∧ er2 = 0 ∧ p2 = p + 10) := by
    rcases h1 with ⟨g1, g2⟩ | ⟨g1, g2, g3, g4⟩
    · have := bits1 (by omega) hB2
      exact .inl ⟨by omega, by omega⟩
    · rcases bits0 g3 (by omega) hB2 with ⟨k1, _, k3, _⟩ | ⟨k1, k2, k3, k4⟩
      · have k1 : 8 * xs.length < p1 + 5 := k1
        exact .inl ⟨by omega, k3⟩
      · have k1 : p1 + 5 ≤ 8 * xs.length := k1
        have k4 : p2 = p1 + 5 := k4
        exact .inr ⟨by omega, g2, by rw [k2, g4]; rfl, k3, by omega⟩
  clear hB2 h1
  cbv
  (try simp only [ncast] at *)
  refine toC hC (call_bits rfl hA (hb := 0) (hr := 1) (n := 4) hx hF2 (by decide) rfl rfl fun a3 b3 p3 at3 hold3 nb3 er3 z3 hF3 hB3 => ?_)
  have hall : (8 * xs.length < p + 14 ∧ er3 = 3) ∨ (p + 14 ≤ 8 * xs.length ∧ z1 = cut (V xs) p 5 ∧ z2 = cut (V xs) (p + 5) 5 ∧ z3 = cut (V xs) (p + 10) 4 ∧ er3 = 0 ∧ p3 = p + 14) := by
    rcases h2 with ⟨g1, g2⟩ | ⟨g1, g2, g2', g3, g4⟩
    · have := bits1 (by omega) hB3
      exact .inl ⟨by omega, by omega⟩
    · rcases bits0 g3 (by omega) hB3 with ⟨k1, _, k3, _⟩ | ⟨k1, k2, k3, k4⟩
      · have k1 : 8 * xs.length < p2 + 4 := k1
        exact .inl ⟨by omega, k3⟩
      · have k1 : p2 + 4 ≤ 8 * xs.length := k1
        have k4 : p3 = p2 + 4 := k4
        exact .inr ⟨by omega, g2, g2', by rw [k2, g4]; rfl, k3, by omega⟩
  clear hB3 h2 hF hF1 hF2
  rcases hall with ⟨hs, rfl⟩ | ⟨hs, hz1, hz2, hz3, rfl, hp3⟩
  · have hrd : rdD xs p large = .error 3 := by
      unfold rdD
      rw [if_pos hs]
    cbv
    (try simp only [ncast] at *)
    refine toC hC (call_err rfl (hb := 0) (hr := 1) rfl (by show 1 < 2; omega) ?_)
    cbv
    (try simp only [ncast] at *)
    refine ifT (by simp only [neqA hA]; simp) fun h => ?_
    (try rw [h]); clear h
    cbv
    (try simp only [ncast] at *)
    refine toC hC (call_err rfl (hb := 0) (hr := 1) rfl (by show 1 < 2; omega) ?_)
    cbv
    (try simp only [ncast] at *)
    subst hA hq
    refine Fin_of ⟨[(4, .nilS), (5, .nilS), (6, .int .i64 3)], RdH R m at3 hold3 nb3 3 xs ++ [.gone]⟩ ?_ ⟨a3, b3, p3, 0, 0, at3, hold3, nb3, 3, 3, [], [], hF3, .inl ⟨by omega, hrd⟩, .inl ⟨by omega, rfl, rfl⟩⟩
    unfold RdH
    exact Sb [0, 1, 1]
  · obtain ⟨D, hD⟩ : ∃ D, D = rdD xs p large := ⟨_, rfl⟩
    have hrd0 := hD
    unfold rdD at hrd0
    rw [if_neg (by omega), ← hz1, ← hz2, ← hz3] at hrd0
    have hc1 := cut_b (V xs) p (n := 5)
    have hc2 := cut_b (V xs) (p + 5) (n := 5)
    have hc3 := cut_b (V xs) (p + 10) (n := 4)
    have e32 : (2 : Int) ^ 5 = 32 := rfl
    have e16 : (2 : Int) ^ 4 = 16 := rfl
    rw [← hz1] at hc1
    rw [← hz2] at hc2
    rw [← hz3] at hc3
    clear hz1 hz2 hz3
    obtain ⟨la, hla⟩ : ∃ v, v = z1 + 257 := ⟨_, rfl⟩
    obtain ⟨lb, hlb⟩ : ∃ v, v = z2 + 1 := ⟨_, rfl⟩
    obtain ⟨n3, hn3⟩ : ∃ v, v = z3 + 4 := ⟨_, rfl⟩
    rw [show 257 + z1 = la by omega, show 1 + z2 = lb by omega, show 4 + z3 = n3 by omega] at hrd0
    have w1 : A.wrap .i64 z1 = z1 := by rw [wrapA hA, wrap64 (by omega)]
    have w2 : A.wrap .i64 z2 = z2 := by rw [wrapA hA, wrap64 (by omega)]
    have w3 : A.wrap .i64 z3 = z3 := by rw [wrapA hA, wrap64 (by omega)]
    have x1 : A.bin .add .i64 z1 257 = la := by rw [addA hA, wrap64 (by omega), hla]
    have x2 : A.bin .add .i64 z2 1 = lb := by rw [addA hA, wrap64 (by omega), hlb]
    have x3 : A.bin .add .i64 z3 4 = n3 := by rw [addA hA, wrap64 (by omega), hn3]
    have x4 : A.bin .add .i64 la lb = la + lb := by rw [addA hA, wrap64 (by omega)]
    have hmo : mosD large ≤ 32 := by unfold mosD; split <;> omega
    obtain ⟨mo, hmoe⟩ : ∃ v, v = mosD large := ⟨_, rfl⟩
    rw [← hmoe] at hrd0 hmo
    obtain ⟨nN, hnN⟩ : ∃ k : Nat, k = n3.toNat := ⟨_, rfl⟩
    have hn3N : n3 = nN := by omega
    rw [← hnN] at hrd0
    cbv
    (try simp only [ncast] at *)
    simp only [w1, w2, w3, x1, x2, x3]
    refine toC hC (call_err rfl (hb := 0) (hr := 1) rfl (by show 1 < 2; omega) ?_)
    cbv
    (try simp only [ncast] at *)
    refine ifF (by simp only [neqA hA]; simp) fun h => ?_
    (try rw [h]); clear h
    cbv
    (try simp only [ncast] at *)
    have er4 : (286 < la ∨ mo < lb) → rdD xs p large = .error 4 := fun h => by rw [← hD, hrd0, if_pos h]
    refine ifB_intro (fun h => ?_) (fun h => ?_)
    · have g1 := h
      (try simp only [wA hA] at g1)
      (try rw [h]); clear h
      cbv
      (try simp only [ncast] at *)
      have hrd := er4 (.inl g1)
      subst hA hq
      refine Fin_of ⟨[(4, .nilS), (5, .nilS), (6, .int .i64 4)], RdH R m at3 hold3 nb3 0 xs ++ [.gone]⟩ ?_ ⟨a3, b3, p3, 0, 0, at3, hold3, nb3, 0, 4, [], [], hF3, .inl ⟨by omega, hrd⟩, .inl ⟨by omega, rfl, rfl⟩⟩
      unfold RdH
      exact Sb [0, 1, 1]
    · have g1 := h
      (try simp only [wA hA] at g1)
      (try rw [h]); clear h
      cbv
      (try simp only [ncast] at *)
      refine toC hC (call_mostD rfl ?_)
      rw [← hmoe]
      cbv
      (try simp only [ncast] at *)
      refine ifB_intro (fun h => ?_) (fun h => ?_)
      · have g2 := h
        (try simp only [wA hA] at g2)
        (try rw [h]); clear h
        cbv
        (try simp only [ncast] at *)
        have hrd := er4 (.inr g2)
        subst hA hq
        refine Fin_of ⟨[(4, .nilS), (5, .nilS), (6, .int .i64 4)], RdH R m at3 hold3 nb3 0 xs ++ [.gone]⟩ ?_ ⟨a3, b3, p3, 0, 0, at3, hold3, nb3, 0, 4, [], [], hF3, .inl ⟨by omega, hrd⟩, .inl ⟨by omega, rfl, rfl⟩⟩
        unfold RdH
        exact Sb [0, 1, 1]
      · have g2 := h
        (try simp only [wA hA] at g2)
        (try rw [h]); clear h
        cbv
        (try simp only [ncast] at *)
        clear er4
        rw [if_neg (by omega)] at hrd0
        have hT := s_third hO xs m p3 a3 b3 nN at3 hold3 nb3 n3 hn3N (by omega) hx hF3
        rw [← hA] at hT
        unfold RdH at hT
        refine cal_of hC hT [(0, 0, true), (1, 0, true)] ⟨by simp, by simp, trivial⟩ (matchH2 hA ⟨(show 1 < 2 by omega), trivial, trivial, trivial, trivial, trivial, trivial⟩ ⟨rfl, trivial, trivial, trivial, trivial, trivial, trivial⟩ rfl rfl rfl) ⟨⟨(show 0 < 2 by omega), trivial, rfl⟩, ⟨trivial, trivial, rfl⟩, trivial⟩ ?_
        rintro _ _ ⟨a4, b4, p4, ks, at4, hold4, nb4, er4, e4, lg, l, sy, tb, dc, hF4, hTh, hcs⟩
        clear hT hF3
        rcases hcs with ⟨he4, rfl, rfl⟩ | ⟨rfl, hQ, hDc, hks, rfl, rfl⟩
        · refine ⟨_, .tup [.nilP, .int .i64 e4], [.box 101 [.lst 1 m, .int .i64 at4, .int .u64 hold4, .int .i64 nb4, .int .i64 er4, .bool true], .lst 5 1 (A.ints .u8 xs), .gone, .gone], rfl, rfl, ?_, ?_⟩
          · simp only [backH, List.cons_append, List.nil_append, List.map_cons, List.map_nil, renCk, renA hA, ← hA, setAll, List.length_cons, List.length_nil, List.drop_succ_cons, List.drop_zero]
            rfl
          have hrd : rdD xs p large = .error e4 := by
            rw [← hD, hrd0]
            rcases hTh with ⟨h1, h2⟩ | ⟨h1, h2, h3⟩ | ⟨h1, _⟩
            · rw [if_pos (by omega), h1]
            · rw [if_neg (by omega), if_pos (by rw [← hp3]; exact h3), h1]
            · exact absurd h1 he4
          cbv
          (try simp only [ncast] at *)
          refine ifT (by simp only [neqA hA]; simp; exact he4) fun h => ?_
          (try rw [h]); clear h
          cbv
          (try simp only [ncast] at *)
          subst hA hq
          refine Fin_of ⟨[(4, .nilS), (5, .nilS), (6, .int .i64 e4)], RdH R m at4 hold4 nb4 er4 xs ++ [.gone]⟩ ?_ ⟨a4, b4, p4, 0, 0, at4, hold4, nb4, er4, e4, [], [], hF4, .inl ⟨by omega, hrd⟩, .inl ⟨by omega, rfl, rfl⟩⟩
          unfold RdH
          exact Sb [0, 1, 1]
        · obtain ⟨hr0, hp4b, hck, hl, hp4⟩ : er4 = 0 ∧ p3 + 3 * nN ≤ 8 * xs.length ∧ ChkQ (thS xs p3 nN 19) 1 ∧ l = thS xs p3 nN 19 ∧ p4 = p3 + 3 * nN := by
            rcases hTh with ⟨h1, _⟩ | ⟨h1, _⟩ | ⟨_, h⟩
            · omega
            · omega
            · exact h
          subst hr0
          clear hTh
          rw [if_neg (by omega), if_neg (by rw [← hp3]; exact not_not_intro hck), ← hp3, ← hl, ← hp4] at hrd0
          have hm := hDc.mapR (linkOf 2 [(0, 0, true), (1, 0, true)])
          have hm : IsDC (dc.map (renC (linkOf 2 [(0, 0, true), (1, 0, true)]))) true lg (cvec l) (fvec (cvec l)) (.lst 3 ks) tb := hm
          obtain ⟨dd, hdd⟩ : ∃ d, d = dc.map (renC (linkOf 2 [(0, 0, true), (1, 0, true)])) := ⟨_, rfl⟩
          rw [← hdd] at hm
          refine ⟨_, .tup [.ptr 2 0, .int .i64 0], [.box 101 [.lst 1 m, .int .i64 at4, .int .u64 hold4, .int .i64 nb4, .int .i64 0, .bool true], .lst 5 1 (A.ints .u8 xs), .box 147 dd, .lst 3 1 (A.ints .i64 sy)], rfl, rfl, ?_, ?_⟩
          · rw [hdd]
            simp only [backH, List.cons_append, List.nil_append, List.map_cons, List.map_nil, renCk, renA hA, ← hA, setAll, List.length_cons, List.length_nil, List.drop_succ_cons, List.drop_zero]
            rfl
          clear hdd hDc hck
          cbv
          (try simp only [ncast] at *)
          refine ifF (by simp only [neqA hA]; simp) fun h => ?_
          (try rw [h]); clear h
          cbv
          (try simp only [ncast] at *)
          simp only [x4]
          have hLs := s_dlists l lg sy tb ks dd xs m p4 a4 b4 at4 hold4 nb4 (la + lb) (by omega) hQ hm hks hx hF4
          rw [← hA] at hLs
          unfold RdH at hLs
          have hu : dd.map (renC (linkOf 4 [(0, 0, true), (1, 0, true), (2, 0, false), (3, 0, false)])) = dd := (hm.mapR (linkOf 4 [(0, 0, true), (1, 0, true), (2, 0, false), (3, 0, false)])).uniq hm
          refine cal_of hC (Spec.lift hLs) [(0, 0, true), (1, 0, true), (2, 0, false), (3, 0, false)] ?_ ⟨rfl, ⟨(show 1 < 4 by omega), trivial, trivial, trivial, trivial, trivial, trivial⟩, ⟨rfl, trivial, trivial, trivial, trivial, trivial, trivial⟩, rfl, rfl, hLtsA hA .., zOksA hA .., ?_, hm.hl (show 3 < 4 by omega), hm.zo rfl, ?_, hLtsA hA .., zOksA hA .., ?_, trivial⟩ ⟨⟨(show 0 < 4 by omega), trivial, rfl⟩, ⟨(show 2 < 4 by omega), trivial, rfl⟩, ⟨trivial, trivial, rfl⟩, trivial⟩ ?_
          · simp [lkOk]
          · rw [renCk, renA hA]; rfl
          · exact (cells_box rfl rfl).trans (congrArg some hu.symm)
          · rw [renA hA, A_ints_len hA, ← hks]; exact cells_lst rfl (by rw [A_ints_len hA]; exact hks.symm)
          rintro _ _ ⟨a5, b5, p5, k5, at5, hold5, nb5, er5, e5, o, hF5, hLi, hk5, rfl, rfl⟩
          clear hLs hu hF4
          refine ⟨_, .tup [.lst 4 k5, .int .i64 e5], [.box 101 [.lst 1 m, .int .i64 at5, .int .u64 hold5, .int .i64 nb5, .int .i64 er5, .bool true], .lst 5 1 (A.ints .u8 xs), .box 147 dd, .lst 3 1 (A.ints .i64 sy), .lst 3 1 (A.ints .i64 o)], rfl, rfl, ?_, ?_⟩
          · simp only [backH, List.cons_append, List.nil_append, List.map_cons, List.map_nil, renCk, renA hA, ← hA, setAll, List.length_cons, List.length_nil, List.drop_succ_cons, List.drop_zero]
            rfl
          cbv
          (try simp only [ncast] at *)
          refine ifB_intro (fun h => ?_) (fun h => ?_)
          · have g5 := h
            (try simp only [wA hA] at g5)
            (try rw [h]); clear h
            cbv
            (try simp only [ncast] at *)
            have hrd : rdD xs p large = .error e5 := by
              rw [← hD, hrd0]
              rcases hLi with ⟨_, _, h⟩ | ⟨h, _⟩
              · rw [h]
              · exact absurd h g5
            subst hA hq
            refine Fin_of ⟨[(4, .nilS), (5, .nilS), (6, .int .i64 e5)], RdH R m at5 hold5 nb5 er5 xs ++ [.gone]⟩ ?_ ⟨a5, b5, p5, 0, 0, at5, hold5, nb5, er5, e5, [], [], hF5, .inl ⟨by omega, hrd⟩, .inl ⟨by omega, rfl, rfl⟩⟩
            unfold RdH
            exact Sb [0, 1, 1]
          · have g5 := h
            (try simp only [wA hA] at g5)
            (try rw [h]); clear h
            cbv
            (try simp only [ncast] at *)
            obtain ⟨hr5, hol, hli⟩ : er5 = 0 ∧ (o.length : Int) = la + lb ∧ liM l xs (la + lb) (la + lb).toNat p4 [] = .ok (o, p5) := by
              rcases hLi with ⟨h, _⟩ | ⟨_, h⟩
              · exact absurd g5 h
              · exact h
            subst hr5
            rw [hli] at hrd0
            clear hLi hli
            obtain ⟨aN, haN⟩ : ∃ k : Nat, k = la.toNat := ⟨_, rfl⟩
            obtain ⟨bN, hbN⟩ : ∃ k : Nat, aN + k = k5 := ⟨k5 - aN, by omega⟩
            obtain ⟨lit, hlit⟩ : ∃ v, v = o.take aN := ⟨_, rfl⟩
            obtain ⟨dist, hdist⟩ : ∃ v, v = o.drop aN := ⟨_, rfl⟩
            have hll : aN = lit.length := by rw [hlit, List.length_take]; omega
            have hdl : bN = dist.length := by rw [hdist, List.length_drop]; omega
            have hlo : lit ++ dist = o := by rw [hlit, hdist, List.take_append_drop]
            have hrd0 : D = open Classical in if RgP lit dist large then Except.ok (lit, dist, p5) else Except.error 6 := by
              rw [hlit, hdist, haN]; exact hrd0
            have i0 : A.ix 0 (A.nat 0) 1 = 0 := by rw [ixA hA, natA hA]; rfl
            have i1 : A.cnt la (A.nat 0) = aN := by rw [cntA hA, natA hA, haN]; congr 1; omega
            have i2 : A.ix 0 la 1 = aN := by rw [ixA hA, haN]; omega
            have i3 : A.cnt (A.nat k5) la = bN := by rw [cntA hA, natA hA]; omega
            have c0 : A.ge0 (A.nat 0) := by rw [ge0A hA, natA hA]; omega
            have c1 : A.leI (A.nat 0) la := by rw [leIA hA, natA hA]; omega
            have c2 : A.leI la (A.nat k5) := by rw [leIA hA, natA hA]; omega
            have c3 : A.ge0 la := by rw [ge0A hA]; omega
            have c4 : A.leI (A.nat k5) (A.nat k5) := by rw [leIA hA]; omega
            have c5 : A.leI la la := by rw [leIA hA]; omega
            refine ⟨c0, c1, c2, c3, c2, c4, ?_⟩
            simp only [i0, i1, i2, i3]
            refine toC hC (call_right17 rfl hA (h1 := 4) (o1 := 0) (h2 := 4) (o2 := aN) hll hdl (by omega) (by omega) (win_cells hA rfl (by rw [List.drop_zero]; exact hlit) (by omega)) (win_cells hA rfl (by rw [hdist, hdl, hdist, List.take_length]) (by omega)) ⟨⟨(show 0 < 2 by omega), rfl, rfl, rfl⟩, ⟨(show 1 < 2 by omega), rfl, Nat.add_zero _, rfl⟩, ⟨trivial, trivial, rfl⟩, trivial⟩ fun t ht => ?_)
            have hnt : A.not true = false := by rw [notA hA]; rfl
            have hnf : A.not false = true := by rw [notA hA]; rfl
            cases t with
            | false =>
              have hrd : rdD xs p large = .error 6 := by
                rw [← hD, hrd0, if_neg (fun h => absurd (ht.2 h) (by simp))]
              cbv
              (try simp only [ncast] at *)
              simp only [hnf]
              cbv
              (try simp only [ncast] at *)
              subst hA hq
              refine Fin_of ⟨[(4, .nilS), (5, .nilS), (6, .int .i64 6)], RdH R m at5 hold5 nb5 0 xs ++ [.gone]⟩ ?_ ⟨a5, b5, p5, 0, 0, at5, hold5, nb5, 0, 6, [], [], hF5, .inl ⟨by omega, hrd⟩, .inl ⟨by omega, rfl, rfl⟩⟩
              unfold RdH
              exact Sb [0, 1, 1]
            | true =>
              have hrg := ht.1 rfl
              rw [if_pos hrg] at hrd0
              rw [hD] at hrd0
              clear ht hD
              cbv
              (try simp only [ncast] at *)
              simp only [hnt]
              cbv
              (try simp only [ncast] at *)
              refine ⟨by first | exact c0 | assumption, by first | exact c1 | assumption, by first | exact c2 | exact c5 | assumption, ?_⟩
              refine ⟨c3, c2, c4, ?_⟩
              have i4 : A.ix 0 la 1 = 0 + aN := by rw [i2]; omega
              simp only [i0, i1, i4, i3]
              subst hA hq
              refine Fin_of ⟨[(4, .sl 2 0 aN true), (5, .sl 2 aN bN false), (6, .int .i64 0)], RdH R m at5 hold5 nb5 0 xs ++ [.lst 3 1 (R.ints .i64 o)]⟩ ?_ ⟨a5, b5, p5, aN, bN, at5, hold5, nb5, 0, 0, lit, dist, hF5, .inr ⟨rfl, rfl, hrg, hrd0⟩, .inr ⟨rfl, hll, hdl, rfl, by rw [hlo]⟩⟩
              unfold RdH
              exact Sb [0, 1, 4]
end Go.Sx

/- inflate: plain: the contract. -/
set_option maxRecDepth 100000
set_option maxHeartbeats 4000000
set_option linter.unusedVariables false
set_option linter.unusedSimpArgs false
namespace Go.Sx
open Go.Proofs.Tryd

theorem xor_ones (a : Nat) (h : a < 65536) : a ^^^ 65535 = 65535 - a := by
  have h1 := congrArg BitVec.toNat (BitVec.xor_allOnes (x := BitVec.ofNat 16 a))
  rw [BitVec.toNat_xor, BitVec.toNat_not, BitVec.toNat_allOnes, BitVec.toNat_ofNat, Nat.mod_eq_of_lt (show a < 2 ^ 16 from h)] at h1
  exact h1
theorem xor_iff {a b : Nat} (ha : a < 65536) (hb : b < 65536) : a ^^^ b = 65535 ↔ a + b = 65535 := by
  have ho := xor_ones a ha
  constructor
  · intro h
    have e : a ^^^ (a ^^^ b) = b := by rw [← Nat.xor_assoc, Nat.xor_self, Nat.zero_xor]
    rw [h, ho] at e
    omega
  · intro h
    have e : a ^^^ (a ^^^ 65535) = 65535 := by rw [← Nat.xor_assoc, Nat.xor_self, Nat.zero_xor]
    rw [ho] at e
    rw [show b = 65535 - a by omega]
    exact e
theorem bxor_iff {x y : Int} (hx : 0 ≤ x ∧ x < 65536) (hy : 0 ≤ y ∧ y < 65536) : bxor .u32 x y = 65535 ↔ x + y = 65535 := by
  obtain ⟨a, rfl⟩ : ∃ a : Nat, x = a := ⟨x.toNat, by omega⟩
  obtain ⟨b, rfl⟩ : ∃ b : Nat, y = b := ⟨y.toNat, by omega⟩
  have hl : a ^^^ b < 65536 := Nat.xor_lt_two_pow (n := 16) (by omega) (by omega)
  have e : bxor .u32 (a : Int) (b : Int) = ((a ^^^ b : Nat) : Int) := by
    unfold bxor
    rw [BitVec.toNat_xor, BitVec.ofInt_natCast, BitVec.ofInt_natCast, BitVec.toNat_ofNat, BitVec.toNat_ofNat, Nat.mod_eq_of_lt, Nat.mod_eq_of_lt, Go.IntKind.wrap_u32]
    · omega
    · show b < 2 ^ 32; omega
    · show a < 2 ^ 32; omega
  rw [e]
  have := xor_iff (a := a) (b := b) (by omega) (by omega)
  omega
theorem plL_step {xs : List Int} {mo : Int} {f p : Nat} {o : List Int} (hf : 0 < f) : plL xs mo f p o = if 8 * xs.length < p + 8 then .error 3 else if (o.length : Int) = mo then .error 9 else plL xs mo (f - 1) (p + 8) (o ++ [cut (V xs) p 8]) := by
  obtain ⟨g, rfl⟩ : ∃ g, f = g + 1 := ⟨f - 1, by omega⟩
  rw [plL]
  rfl
/-- What a block of bytes comes to. -/
def PlR (xs : List Int) (mo : Int) (p : Nat) (o : List Int) (st e : Int) (p' : Nat) (o' : List Int) (st' er' : Int) : Prop :=
  (e ≠ 0 ∧ plM xs mo p o = .error e) ∨ (e = 0 ∧ er' = 0 ∧ OB xs mo p' o' ∧ p + 1 ≤ p' ∧ 0 ≤ st' ∧ st' ≤ p' ∧ ∃ n : Int, plM xs mo p o = .ok (p', o', n) ∧ st' = st + n)
/-- All chunks, behind. -/
def plHA (A : Ar) (large : Bool) (m k : Nat) (st at_ hold nb er : Int) (xs o : List Int) (wd mo : Int) : List Ck :=
  [.box 63 [.ptr 1 0, .ptr 3 0, .bool large, .int .i64 st, .nilP, .nilP], .box 101 [.lst 2 m, .int .i64 at_, .int .u64 hold, .int .i64 nb, .int .i64 er, .bool true], .lst 5 1 (A.ints .u8 xs), .box 98 [.int .i64 wd, .int .i64 mo, .bool false, .lst 5 k], .gone, .lst 5 1 (A.ints .u8 o)]
theorem s_plainA (xs : List Int) (m p a b k : Nat) (at_ hold nb wd mo st : Int) (large : Bool) (o : List Int) (hx : RX xs m) (hF : RF xs p a b at_ hold nb) (hk : k = o.length) (hw : 0 < wd) (hB : BB xs mo) (hO : OB xs mo p o) (hst : 0 ≤ st ∧ st ≤ p) :
    Spec prog 50 [.ptr 0 0] [.box 63 [.ptr 1 0, .ptr 3 0, .bool large, .int .i64 st, .nilP, .nilP], .box 101 [.lst 2 m, .int .i64 at_, .int .u64 hold, .int .i64 nb, .int .i64 0, .bool true], .lst 5 1 (R.ints .u8 xs), .box 98 [.int .i64 wd, .int .i64 mo, .bool false, .lst 4 k], .lst 5 1 (R.ints .u8 o)]
    (fun r H => ∃ (a b p' k' : Nat) (at_ hold nb er' st' e : Int) (o' : List Int), RF xs p' a b at_ hold nb ∧ PlR xs mo p o st e p' o' st' er' ∧ k' = o'.length ∧ r = .int .i64 e ∧ H = plHA R large m k' st' at_ hold nb er' xs o' wd mo) := by
  refine Spec_of_kF (D := fun i => if i = 2 then (9, [1,2]) else (0, [])) (ks := [0, 2, 3, 4, 5, 6, 7, 40, 41]) tok mixed (fn := f50) rfl rfl rfl (by kernel_rfl) (N := 74) rfl (rs := [.tmp 2]) rfl (Nat.le_of_ble_eq_true rfl) fun A C Kp E ag L q hA hC hK hE hag hL hq => ?_
  rw [← hA]
  obtain ⟨D, hDD⟩ : ∃ D, D = plM xs mo p o := ⟨_, rfl⟩
  have hd0 := hDD
  unfold plM at hd0
  have hpl := hO.2.2
  have hxl : xs.length ≤ 1000000000000 := hx.2.2
  cbv
  (try simp only [ncast] at *)
  refine call_align1 hC hA (hb := 1) (hr := 2) hx hF (by decide) rfl rfl fun p0 a0 b0 at0 hold0 nb0 hF0 hp0 => ?_
  have hp0 : p0 = up8i p := by rw [hp0, if_pos rfl]; rfl
  have hpu : p ≤ p0 ∧ p0 ≤ 8 * xs.length := by rw [hp0]; unfold up8i; omega
  rw [← hp0] at hd0
  clear hp0 hF
  cbv
  (try simp only [ncast] at *)
  refine call_bits hC hA (hb := 1) (hr := 2) (n := 16) hx hF0 (by decide) rfl rfl fun a1 b1 p1 at1 hold1 nb1 er1 z1 hF1 hB1 => ?_
  have h1 : (8 * xs.length < p0 + 16 ∧ er1 = 3) ∨ (p0 + 16 ≤ 8 * xs.length ∧ z1 = cut (V xs) p0 16 ∧ er1 = 0 ∧ p1 = p0 + 16) := by
    rcases bits0 rfl (by omega) hB1 with h | h
    · exact .inl ⟨h.1, h.2.2.1⟩
    · exact .inr h
  clear hB1
  cbv
  (try simp only [ncast] at *)
  refine call_bits hC hA (hb := 1) (hr := 2) (n := 16) hx hF1 (by decide) rfl rfl fun a2 b2 p2 at2 hold2 nb2 er2 z2 hF2 hB2 => ?_
  have hall : (8 * xs.length < p0 + 32 ∧ er2 = 3) ∨ (p0 + 32 ≤ 8 * xs.length ∧ z1 = cut (V xs) p0 16 ∧ z2 = cut (V xs) (p0 + 16) 16 ∧ er2 = 0 ∧ p2 = p0 + 32) := by
    rcases h1 with ⟨g1, g2⟩ | ⟨g1, g2, g3, g4⟩
    · have := bits1 (by omega) hB2
      exact .inl ⟨by omega, by omega⟩
    · rcases bits0 g3 (by omega) hB2 with ⟨k1, _, k3, _⟩ | ⟨k1, k2, k3, k4⟩
      · have k1 : 8 * xs.length < p1 + 16 := k1
        exact .inl ⟨by omega, k3⟩
      · have k1 : p1 + 16 ≤ 8 * xs.length := k1
        have k4 : p2 = p1 + 16 := k4
        exact .inr ⟨by omega, g2, by rw [k2, g4]; rfl, k3, by omega⟩
  clear hB2 h1 hF0 hF1
  rcases hall with ⟨hs, rfl⟩ | ⟨hs, hz1, hz2, rfl, hp2⟩
  · rw [if_pos hs] at hd0
    have hW : PlR xs mo p o st 3 p2 o st 3 := .inl ⟨by omega, by rw [← hDD]; exact hd0⟩
    cbv
    (try simp only [ncast] at *)
    refine call_err hC (hb := 1) (hr := 2) rfl (by show 2 < 5; omega) ?_
    cbv
    (try simp only [ncast] at *)
    refine ifT (by simp only [neqA hA]; simp) fun h => ?_
    (try rw [h]); clear h
    cbv
    (try simp only [ncast] at *)
    refine call_err hC (hb := 1) (hr := 2) rfl (by show 2 < 5; omega) ?_
    cbv
    (try simp only [ncast] at *)
    subst hA hq
    refine Fin_of ⟨[(2, .int .i64 3)], plHA R large m k st at2 hold2 nb2 3 xs o wd mo⟩ ?_ ⟨a2, b2, p2, k, at2, hold2, nb2, 3, st, 3, o, hF2, hW, hk, rfl, rfl⟩
    unfold plHA
    exact Sb [0, 1, 2, 3, 4, 4]
  · rw [if_neg (by omega), ← hz1, ← hz2, ← hp2] at hd0
    have c1 := cut_b (V xs) p0 (n := 16)
    have c2 := cut_b (V xs) (p0 + 16) (n := 16)
    have e16 : (2 : Int) ^ 16 = 65536 := rfl
    rw [← hz1] at c1
    rw [← hz2] at c2
    clear hz1 hz2
    have hxo := bxor_iff (x := z1) (y := z2) (by omega) (by omega)
    obtain ⟨v, hv⟩ : ∃ v, v = A.bin .xor .u32 z1 z2 := ⟨_, rfl⟩
    have hxo : v = 65535 ↔ z1 + z2 = 65535 := by rw [hv, xorA hA]; exact hxo
    cbv
    (try simp only [ncast] at *)
    refine call_err hC (hb := 1) (hr := 2) rfl (by show 2 < 5; omega) ?_
    cbv
    (try simp only [ncast] at *)
    refine ifF (by simp only [neqA hA]; simp) fun h => ?_
    (try rw [h]); clear h
    cbv
    (try simp only [ncast] at *)
    simp only [← hv]
    refine ifB_intro (fun h => ?_) (fun h => ?_)
    · have h65 := h
      (try simp only [wA hA] at h65)
      (try rw [h]); clear h
      cbv
      (try simp only [ncast] at *)
      rw [if_pos (fun h => h65 (hxo.2 h))] at hd0
      have hW : PlR xs mo p o st 4 p2 o st 0 := .inl ⟨by omega, by rw [← hDD]; exact hd0⟩
      subst hA hq
      refine Fin_of ⟨[(2, .int .i64 4)], plHA R large m k st at2 hold2 nb2 0 xs o wd mo⟩ ?_ ⟨a2, b2, p2, k, at2, hold2, nb2, 0, st, 4, o, hF2, hW, hk, rfl, rfl⟩
      unfold plHA
      exact Sb [0, 1, 2, 3, 4, 4]
    · have h65 := h
      (try simp only [wA hA] at h65)
      (try rw [h]); clear h
      cbv
      (try simp only [ncast] at *)
      rw [if_neg (not_not_intro (hxo.1 h65))] at hd0
      clear hxo hv
      obtain ⟨nN, hnN⟩ : ∃ k : Nat, k = z1.toNat := ⟨_, rfl⟩
      rw [← hnN] at hd0
      obtain ⟨L0, hL0⟩ : ∃ L, L = plL xs mo nN p2 o := ⟨_, rfl⟩
      rw [← hL0] at hd0
      obtain ⟨st0, hst0⟩ : ∃ v, v = st := ⟨_, rfl⟩
      obtain ⟨ps, hps⟩ : ∃ v, v = p := ⟨_, rfl⟩
      have hO2 : OB xs mo p2 o := by
        obtain ⟨o1, o2, o3⟩ := hO
        exact ⟨o1, by omega, by omega⟩
      rw [hL]
      refine ⟨fun kk s => ∃ (i p a b k : Nat) (iI at_ hold nb st : Int) (o : List Int), iI = i ∧ i ≤ nN ∧ L0 = plL xs mo (nN - i) p o ∧ st = st0 + i ∧ ps + 1 ≤ p ∧ OB xs mo p o ∧ st ≤ p ∧ k = o.length ∧ RF xs p a b at_ hold nb ∧ kk = nN - i ∧
          s = ⟨[(0, .ptr 0 0), (40, .int .u32 z1), (41, .int .u32 iI)], plHA A large m k st at_ hold nb 0 xs o wd mo⟩,
        ⟨_, ⟨[(0, .ptr 0 0), (40, .int .u32 z1), (41, .int .u32 0)], plHA A large m k st at2 hold2 nb2 0 xs o wd mo⟩, ?_, 0, p2, a2, b2, k, 0, at2, hold2, nb2, st, o, rfl, by omega, hL0, by omega, by omega, hO2, by omega, hk, hF2, rfl, rfl⟩, ?_⟩
      · subst hA
        unfold plHA
        exact Sb [0, 1, 2, 3, 4, 4]
      clear hF2 hO hO2 hk
      rintro kk _ ⟨i, p3, a3, b3, k3, iI, at3, hold3, nb3, st3, o3, hiI, hi, hL1, hst3, hps3, hO3, hsp3, hk3, hF3, hkk, rfl⟩
      have hp3l := hO3.2.2
      cbv
      (try simp only [ncast] at *)
      refine ifB_intro (fun h => ?_) (fun h => ?_)
      · have hlt := h
        (try simp only [wA hA] at hlt)
        (try rw [h]); clear h
        cbv
        (try simp only [ncast] at *)
        rw [plL_step (by omega)] at hL1
        refine call_bits hC hA (hb := 1) (hr := 2) (n := 8) hx hF3 (by decide) rfl rfl fun a4 b4 p4 at4 hold4 nb4 er4 y hF4 hB4 => ?_
        rcases bits0 rfl (by omega) hB4 with ⟨h1, h2, h3, h4⟩ | ⟨h1, h2, h3, h4⟩
        · subst h3
          have h1 : 8 * xs.length < p3 + 8 := h1
          rw [if_pos h1] at hL1
          rw [hL1] at hd0
          have hW : PlR xs mo p o st 3 p4 o3 st3 3 := .inl ⟨by omega, by rw [← hDD]; exact hd0⟩
          clear hB4
          cbv
          (try simp only [ncast] at *)
          refine call_err hC (hb := 1) (hr := 2) rfl (by show 2 < 5 + 1; omega) ?_
          cbv
          (try simp only [ncast] at *)
          refine ifT (by simp only [neqA hA]; simp) fun h => ?_
          (try rw [h]); clear h
          cbv
          (try simp only [ncast] at *)
          subst hA hq
          refine Fin_of ⟨[(2, .int .i64 3)], plHA R large m k3 st3 at4 hold4 nb4 3 xs o3 wd mo⟩ ?_ ⟨a4, b4, p4, k3, at4, hold4, nb4, 3, st3, 3, o3, hF4, hW, hk3, rfl, rfl⟩
          unfold plHA
          exact Sb [0, 1, 2, 3, 4, 5]
        · subst h3
          have h1 : p3 + 8 ≤ 8 * xs.length := h1
          have h2 : y = cut (V xs) p3 8 := h2
          have h4 : p4 = p3 + 8 := h4
          rw [if_neg (by omega), ← h2, ← h4] at hL1
          have cy := cut_b (V xs) p3 (n := 8)
          have e8 : (2 : Int) ^ 8 = 256 := rfl
          rw [← h2] at cy
          clear hB4 h2
          have hwy : A.wrap .u8 y = y := by rw [wrapA hA, Go.IntKind.wrap_u8]; omega
          obtain ⟨st4, hst4⟩ : ∃ v, v = st3 + 1 := ⟨_, rfl⟩
          obtain ⟨iJ, hiJ⟩ : ∃ v, v = iI + 1 := ⟨_, rfl⟩
          have e1 : A.bin .add .i64 st3 1 = st4 := by rw [addA hA, wrap64 (by omega), hst4]
          have e2 : A.bin .add .u32 iI 1 = iJ := by rw [addA hA, Go.IntKind.wrap_u32, hiJ]; omega
          cbv
          (try simp only [ncast] at *)
          refine call_err hC (hb := 1) (hr := 2) rfl (by show 2 < 5 + 1; omega) ?_
          cbv
          (try simp only [ncast] at *)
          refine ifF (by simp only [neqA hA]; simp) fun h => ?_
          (try rw [h]); clear h
          cbv
          (try simp only [ncast] at *)
          simp only [hwy]
          refine call_lit hC hA (hb := 3) (hr := 5) hk3 (by have := hO3.len hB; omega) hw (by decide) rfl rfl fun e3 k5 ys hLi hk5 => ?_
          cbv
          (try simp only [ncast] at *)
          rcases hLi with ⟨g1, g2, g3⟩ | ⟨g1, g2, g3⟩
          · rw [if_pos g1] at hL1
            rw [hL1] at hd0
            subst g2
            refine ifT (by simp only [neqA hA]; simp) fun h => ?_
            (try rw [h]); clear h
            cbv
            (try simp only [ncast] at *)
            have hW : PlR xs mo p o st 9 p4 ys st3 0 := .inl ⟨by omega, by rw [← hDD]; exact hd0⟩
            subst hA hq
            refine Fin_of ⟨[(2, .int .i64 9)], plHA R large m k5 st3 at4 hold4 nb4 0 xs ys wd mo⟩ ?_ ⟨a4, b4, p4, k5, at4, hold4, nb4, 0, st3, 9, ys, hF4, hW, hk5, rfl, rfl⟩
            unfold plHA
            exact Sb [0, 1, 2, 3, 4, 6]
          · rw [if_neg g1, ← g3] at hL1
            subst g2
            refine ifF (by simp only [neqA hA]; simp) fun h => ?_
            (try rw [h]); clear h
            cbv
            (try simp only [ncast] at *)
            simp only [e1, e2]
            have hyl2 : ys.length = o3.length + 1 := by rw [g3]; simp
            have hO4 : OB xs mo p4 ys := by
              obtain ⟨o1, o2, o3⟩ := hO3
              exact ⟨by omega, by omega, by omega⟩
            subst hag
            refine ⟨nN - (i + 1), ⟨[(0, .ptr 0 0), (40, .int .u32 z1), (41, .int .u32 iJ)], plHA A large m k5 st4 at4 hold4 nb4 0 xs ys wd mo⟩, by omega, ?_, i + 1, p4, a4, b4, k5, iJ, at4, hold4, nb4, st4, ys, by omega, by omega, hL1, by omega, by omega, hO4, by omega, hk5, hF4, rfl, rfl⟩
            subst hA
            unfold plHA
            exact Sb [0, 1, 2, 3, 4, 6]
      · have hge := h
        (try simp only [wA hA] at hge)
        (try rw [h]); clear h
        cbv
        (try simp only [ncast] at *)
        have hin : i = nN := by omega
        have hL2 : L0 = .ok (p3, o3) := by rw [hL1, hin, Nat.sub_self]; rfl
        rw [hL2] at hd0
        dsimp only at hd0
        have hW : PlR xs mo p o st 0 p3 o3 st3 0 := .inr ⟨rfl, rfl, hO3, by omega, by omega, hsp3, z1, by rw [← hDD]; exact hd0, by omega⟩
        subst hA hq
        refine Fin_of ⟨[(2, .int .i64 0)], plHA R large m k3 st3 at3 hold3 nb3 0 xs o3 wd mo⟩ ?_ ⟨a3, b3, p3, k3, at3, hold3, nb3, 0, st3, 0, o3, hF3, hW, hk3, rfl, rfl⟩
        unfold plHA
        exact Sb [0, 1, 2, 3, 4, 5]
/-- All chunks, behind. -/
def plHB (A : Ar) (large : Bool) (m k : Nat) (st at_ hold nb er : Int) (xs o : List Int) (wd mo : Int) : List Ck :=
  [.box 63 [.ptr 1 0, .ptr 3 0, .bool large, .int .i64 st, .ptr 5 0, .ptr 6 0], .box 101 [.lst 2 m, .int .i64 at_, .int .u64 hold, .int .i64 nb, .int .i64 er, .bool true], .lst 5 1 (A.ints .u8 xs), .box 98 [.int .i64 wd, .int .i64 mo, .bool false, .lst 7 k], .gone, .vw [], .vw [], .lst 5 1 (A.ints .u8 o)]
theorem s_plainB (xs : List Int) (m p a b k : Nat) (at_ hold nb wd mo st : Int) (large : Bool) (o : List Int) (hx : RX xs m) (hF : RF xs p a b at_ hold nb) (hk : k = o.length) (hw : 0 < wd) (hB : BB xs mo) (hO : OB xs mo p o) (hst : 0 ≤ st ∧ st ≤ p) :
    Spec prog 50 [.ptr 0 0] [.box 63 [.ptr 1 0, .ptr 3 0, .bool large, .int .i64 st, .ptr 5 0, .ptr 6 0], .box 101 [.lst 2 m, .int .i64 at_, .int .u64 hold, .int .i64 nb, .int .i64 0, .bool true], .lst 5 1 (R.ints .u8 xs), .box 98 [.int .i64 wd, .int .i64 mo, .bool false, .lst 4 k], .lst 5 1 (R.ints .u8 o), .vw [], .vw []]
    (fun r H => ∃ (a b p' k' : Nat) (at_ hold nb er' st' e : Int) (o' : List Int), RF xs p' a b at_ hold nb ∧ PlR xs mo p o st e p' o' st' er' ∧ k' = o'.length ∧ r = .int .i64 e ∧ H = plHB R large m k' st' at_ hold nb er' xs o' wd mo) := by
  refine Spec_of_kF (D := fun i => if i = 2 then (9, [1,2]) else (0, [])) (ks := [0, 2, 3, 4, 5, 6, 7, 40, 41]) tok mixed (fn := f50) rfl rfl rfl (by kernel_rfl) (N := 74) rfl (rs := [.tmp 2]) rfl (Nat.le_of_ble_eq_true rfl) fun A C Kp E ag L q hA hC hK hE hag hL hq => ?_
  rw [← hA]
  obtain ⟨D, hDD⟩ : ∃ D, D = plM xs mo p o := ⟨_, rfl⟩
  have hd0 := hDD
  unfold plM at hd0
  have hpl := hO.2.2
  have hxl : xs.length ≤ 1000000000000 := hx.2.2
  cbv
  (try simp only [ncast] at *)
  refine call_align1 hC hA (hb := 1) (hr := 2) hx hF (by decide) rfl rfl fun p0 a0 b0 at0 hold0 nb0 hF0 hp0 => ?_
  have hp0 : p0 = up8i p := by rw [hp0, if_pos rfl]; rfl
  have hpu : p ≤ p0 ∧ p0 ≤ 8 * xs.length := by rw [hp0]; unfold up8i; omega
  rw [← hp0] at hd0
  clear hp0 hF
  cbv
  (try simp only [ncast] at *)
  refine call_bits hC hA (hb := 1) (hr := 2) (n := 16) hx hF0 (by decide) rfl rfl fun a1 b1 p1 at1 hold1 nb1 er1 z1 hF1 hB1 => ?_
  have h1 : (8 * xs.length < p0 + 16 ∧ er1 = 3) ∨ (p0 + 16 ≤ 8 * xs.length ∧ z1 = cut (V xs) p0 16 ∧ er1 = 0 ∧ p1 = p0 + 16) := by
    rcases bits0 rfl (by omega) hB1 with h | h
    · exact .inl ⟨h.1, h.2.2.1⟩
    · exact .inr h
  clear hB1
  cbv
  (try simp only [ncast] at *)
  refine call_bits hC hA (hb := 1) (hr := 2) (n := 16) hx hF1 (by decide) rfl rfl fun a2 b2 p2 at2 hold2 nb2 er2 z2 hF2 hB2 => ?_
  have hall : (8 * xs.length < p0 + 32 ∧ er2 = 3) ∨ (p0 + 32 ≤ 8 * xs.length ∧ z1 = cut (V xs) p0 16 ∧ z2 = cut (V xs) (p0 + 16) 16 ∧ er2 = 0 ∧ p2 = p0 + 32) := by
    rcases h1 with ⟨g1, g2⟩ | ⟨g1, g2, g3, g4⟩
    · have := bits1 (by omega) hB2
      exact .inl ⟨by omega, by omega⟩
    · rcases bits0 g3 (by omega) hB2 with ⟨k1, _, k3, _⟩ | ⟨k1, k2, k3, k4⟩
      · have k1 : 8 * xs.length < p1 + 16 := k1
        exact .inl ⟨by omega, k3⟩
      · have k1 : p1 + 16 ≤ 8 * xs.length := k1
        have k4 : p2 = p1 + 16 := k4
        exact .inr ⟨by omega, g2, by rw [k2, g4]; rfl, k3, by omega⟩
  clear hB2 h1 hF0 hF1
  rcases hall with ⟨hs, rfl⟩ | ⟨hs, hz1, hz2, rfl, hp2⟩
  · rw [if_pos hs] at hd0
    have hW : PlR xs mo p o st 3 p2 o st 3 := .inl ⟨by omega, by rw [← hDD]; exact hd0⟩
    cbv
    (try simp only [ncast] at *)
    refine call_err hC (hb := 1) (hr := 2) rfl (by show 2 < 7; omega) ?_
    cbv
    (try simp only [ncast] at *)
    refine ifT (by simp only [neqA hA]; simp) fun h => ?_
    (try rw [h]); clear h
    cbv
    (try simp only [ncast] at *)
    refine call_err hC (hb := 1) (hr := 2) rfl (by show 2 < 7; omega) ?_
    cbv
    (try simp only [ncast] at *)
    subst hA hq
    refine Fin_of ⟨[(2, .int .i64 3)], plHB R large m k st at2 hold2 nb2 3 xs o wd mo⟩ ?_ ⟨a2, b2, p2, k, at2, hold2, nb2, 3, st, 3, o, hF2, hW, hk, rfl, rfl⟩
    unfold plHB
    exact Sb [0, 1, 2, 3, 4, 5, 6, 4]
  · rw [if_neg (by omega), ← hz1, ← hz2, ← hp2] at hd0
    have c1 := cut_b (V xs) p0 (n := 16)
    have c2 := cut_b (V xs) (p0 + 16) (n := 16)
    have e16 : (2 : Int) ^ 16 = 65536 := rfl
    rw [← hz1] at c1
    rw [← hz2] at c2
    clear hz1 hz2
    have hxo := bxor_iff (x := z1) (y := z2) (by omega) (by omega)
    obtain ⟨v, hv⟩ : ∃ v, v = A.bin .xor .u32 z1 z2 := ⟨_, rfl⟩
    have hxo : v = 65535 ↔ z1 + z2 = 65535 := by rw [hv, xorA hA]; exact hxo
    cbv
    (try simp only [ncast] at *)
    refine call_err hC (hb := 1) (hr := 2) rfl (by show 2 < 7; omega) ?_
    cbv
    (try simp only [ncast] at *)
    refine ifF (by simp only [neqA hA]; simp) fun h => ?_
    (try rw [h]); clear h
    cbv
    (try simp only [ncast] at *)
    simp only [← hv]
    refine ifB_intro (fun h => ?_) (fun h => ?_)
    · have h65 := h
      (try simp only [wA hA] at h65)
      (try rw [h]); clear h
      cbv
      (try simp only [ncast] at *)
      rw [if_pos (fun h => h65 (hxo.2 h))] at hd0
      have hW : PlR xs mo p o st 4 p2 o st 0 := .inl ⟨by omega, by rw [← hDD]; exact hd0⟩
      subst hA hq
      refine Fin_of ⟨[(2, .int .i64 4)], plHB R large m k st at2 hold2 nb2 0 xs o wd mo⟩ ?_ ⟨a2, b2, p2, k, at2, hold2, nb2, 0, st, 4, o, hF2, hW, hk, rfl, rfl⟩
      unfold plHB
      exact Sb [0, 1, 2, 3, 4, 5, 6, 4]
    · have h65 := h
      (try simp only [wA hA] at h65)
      (try rw [h]); clear h
      cbv
      (try simp only [ncast] at *)
      rw [if_neg (not_not_intro (hxo.1 h65))] at hd0
      clear hxo hv
      obtain ⟨nN, hnN⟩ : ∃ k : Nat, k = z1.toNat := ⟨_, rfl⟩
      rw [← hnN] at hd0
      obtain ⟨L0, hL0⟩ : ∃ L, L = plL xs mo nN p2 o := ⟨_, rfl⟩
      rw [← hL0] at hd0
      obtain ⟨st0, hst0⟩ : ∃ v, v = st := ⟨_, rfl⟩
      obtain ⟨ps, hps⟩ : ∃ v, v = p := ⟨_, rfl⟩
      have hO2 : OB xs mo p2 o := by
        obtain ⟨o1, o2, o3⟩ := hO
        exact ⟨o1, by omega, by omega⟩
      rw [hL]
      refine ⟨fun kk s => ∃ (i p a b k : Nat) (iI at_ hold nb st : Int) (o : List Int), iI = i ∧ i ≤ nN ∧ L0 = plL xs mo (nN - i) p o ∧ st = st0 + i ∧ ps + 1 ≤ p ∧ OB xs mo p o ∧ st ≤ p ∧ k = o.length ∧ RF xs p a b at_ hold nb ∧ kk = nN - i ∧
          s = ⟨[(0, .ptr 0 0), (40, .int .u32 z1), (41, .int .u32 iI)], plHB A large m k st at_ hold nb 0 xs o wd mo⟩,
        ⟨_, ⟨[(0, .ptr 0 0), (40, .int .u32 z1), (41, .int .u32 0)], plHB A large m k st at2 hold2 nb2 0 xs o wd mo⟩, ?_, 0, p2, a2, b2, k, 0, at2, hold2, nb2, st, o, rfl, by omega, hL0, by omega, by omega, hO2, by omega, hk, hF2, rfl, rfl⟩, ?_⟩
      · subst hA
        unfold plHB
        exact Sb [0, 1, 2, 3, 4, 5, 6, 4]
      clear hF2 hO hO2 hk
      rintro kk _ ⟨i, p3, a3, b3, k3, iI, at3, hold3, nb3, st3, o3, hiI, hi, hL1, hst3, hps3, hO3, hsp3, hk3, hF3, hkk, rfl⟩
      have hp3l := hO3.2.2
      cbv
      (try simp only [ncast] at *)
      refine ifB_intro (fun h => ?_) (fun h => ?_)
      · have hlt := h
        (try simp only [wA hA] at hlt)
        (try rw [h]); clear h
        cbv
        (try simp only [ncast] at *)
        rw [plL_step (by omega)] at hL1
        refine call_bits hC hA (hb := 1) (hr := 2) (n := 8) hx hF3 (by decide) rfl rfl fun a4 b4 p4 at4 hold4 nb4 er4 y hF4 hB4 => ?_
        rcases bits0 rfl (by omega) hB4 with ⟨h1, h2, h3, h4⟩ | ⟨h1, h2, h3, h4⟩
        · subst h3
          have h1 : 8 * xs.length < p3 + 8 := h1
          rw [if_pos h1] at hL1
          rw [hL1] at hd0
          have hW : PlR xs mo p o st 3 p4 o3 st3 3 := .inl ⟨by omega, by rw [← hDD]; exact hd0⟩
          clear hB4
          cbv
          (try simp only [ncast] at *)
          refine call_err hC (hb := 1) (hr := 2) rfl (by show 2 < 7 + 1; omega) ?_
          cbv
          (try simp only [ncast] at *)
          refine ifT (by simp only [neqA hA]; simp) fun h => ?_
          (try rw [h]); clear h
          cbv
          (try simp only [ncast] at *)
          subst hA hq
          refine Fin_of ⟨[(2, .int .i64 3)], plHB R large m k3 st3 at4 hold4 nb4 3 xs o3 wd mo⟩ ?_ ⟨a4, b4, p4, k3, at4, hold4, nb4, 3, st3, 3, o3, hF4, hW, hk3, rfl, rfl⟩
          unfold plHB
          exact Sb [0, 1, 2, 3, 4, 5, 6, 7]
        · subst h3
          have h1 : p3 + 8 ≤ 8 * xs.length := h1
          have h2 : y = cut (V xs) p3 8 := h2
          have h4 : p4 = p3 + 8 := h4
          rw [if_neg (by omega), ← h2, ← h4] at hL1
          have cy := cut_b (V xs) p3 (n := 8)
          have e8 : (2 : Int) ^ 8 = 256 := rfl
          rw [← h2] at cy
          clear hB4 h2
          have hwy : A.wrap .u8 y = y := by rw [wrapA hA, Go.IntKind.wrap_u8]; omega
          obtain ⟨st4, hst4⟩ : ∃ v, v = st3 + 1 := ⟨_, rfl⟩
          obtain ⟨iJ, hiJ⟩ : ∃ v, v = iI + 1 := ⟨_, rfl⟩
          have e1 : A.bin .add .i64 st3 1 = st4 := by rw [addA hA, wrap64 (by omega), hst4]
          have e2 : A.bin .add .u32 iI 1 = iJ := by rw [addA hA, Go.IntKind.wrap_u32, hiJ]; omega
          cbv
          (try simp only [ncast] at *)
          refine call_err hC (hb := 1) (hr := 2) rfl (by show 2 < 7 + 1; omega) ?_
          cbv
          (try simp only [ncast] at *)
          refine ifF (by simp only [neqA hA]; simp) fun h => ?_
          (try rw [h]); clear h
          cbv
          (try simp only [ncast] at *)
          simp only [hwy]
          refine call_lit hC hA (hb := 3) (hr := 7) hk3 (by have := hO3.len hB; omega) hw (by decide) rfl rfl fun e3 k5 ys hLi hk5 => ?_
          cbv
          (try simp only [ncast] at *)
          rcases hLi with ⟨g1, g2, g3⟩ | ⟨g1, g2, g3⟩
          · rw [if_pos g1] at hL1
            rw [hL1] at hd0
            subst g2
            refine ifT (by simp only [neqA hA]; simp) fun h => ?_
            (try rw [h]); clear h
            cbv
            (try simp only [ncast] at *)
            have hW : PlR xs mo p o st 9 p4 ys st3 0 := .inl ⟨by omega, by rw [← hDD]; exact hd0⟩
            subst hA hq
            refine Fin_of ⟨[(2, .int .i64 9)], plHB R large m k5 st3 at4 hold4 nb4 0 xs ys wd mo⟩ ?_ ⟨a4, b4, p4, k5, at4, hold4, nb4, 0, st3, 9, ys, hF4, hW, hk5, rfl, rfl⟩
            unfold plHB
            exact Sb [0, 1, 2, 3, 4, 5, 6, 8]
          · rw [if_neg g1, ← g3] at hL1
            subst g2
            refine ifF (by simp only [neqA hA]; simp) fun h => ?_
            (try rw [h]); clear h
            cbv
            (try simp only [ncast] at *)
            simp only [e1, e2]
            have hyl2 : ys.length = o3.length + 1 := by rw [g3]; simp
            have hO4 : OB xs mo p4 ys := by
              obtain ⟨o1, o2, o3⟩ := hO3
              exact ⟨by omega, by omega, by omega⟩
            subst hag
            refine ⟨nN - (i + 1), ⟨[(0, .ptr 0 0), (40, .int .u32 z1), (41, .int .u32 iJ)], plHB A large m k5 st4 at4 hold4 nb4 0 xs ys wd mo⟩, by omega, ?_, i + 1, p4, a4, b4, k5, iJ, at4, hold4, nb4, st4, ys, by omega, by omega, hL1, by omega, by omega, hO4, by omega, hk5, hF4, rfl, rfl⟩
            subst hA
            unfold plHB
            exact Sb [0, 1, 2, 3, 4, 5, 6, 8]
      · have hge := h
        (try simp only [wA hA] at hge)
        (try rw [h]); clear h
        cbv
        (try simp only [ncast] at *)
        have hin : i = nN := by omega
        have hL2 : L0 = .ok (p3, o3) := by rw [hL1, hin, Nat.sub_self]; rfl
        rw [hL2] at hd0
        dsimp only at hd0
        have hW : PlR xs mo p o st 0 p3 o3 st3 0 := .inr ⟨rfl, rfl, hO3, by omega, by omega, hsp3, z1, by rw [← hDD]; exact hd0, by omega⟩
        subst hA hq
        refine Fin_of ⟨[(2, .int .i64 0)], plHB R large m k3 st3 at3 hold3 nb3 0 xs o3 wd mo⟩ ?_ ⟨a3, b3, p3, k3, at3, hold3, nb3, 0, st3, 0, o3, hF3, hW, hk3, rfl, rfl⟩
        unfold plHB
        exact Sb [0, 1, 2, 3, 4, 5, 6, 7]
end Go.Sx

/- inflate: Fixed, codes: the contracts. -/
set_option maxRecDepth 100000
set_option maxHeartbeats 4000000
set_option linter.unusedVariables false
set_option linter.unusedSimpArgs false
namespace Go.Sx
open Go.Proofs.Tryd

theorem fixL_len : fixL.length = 288 := by decide
theorem fixD_len : fixD.length = 32 := by decide
theorem fixL_at : ∀ i : Fin 288, fixL.getD i.1 0 = if i.1 < 144 ∨ 280 ≤ i.1 then 8 else if i.1 < 256 then 9 else 7 := by decide
theorem fixD_at : ∀ i : Fin 32, fixD.getD i.1 0 = 5 := by decide
theorem fixL_wl : wl fixL ≤ 65536 := by decide
theorem fixD_wl : wl fixD ≤ 65536 := by decide
theorem fixL_lens : Lens fixL := by
  have hr : ∀ a ∈ fixL, 0 ≤ a ∧ a ≤ 16 := by decide
  exact ⟨⟨by rw [fixL_len]; omega, hr⟩, by rw [wg_wl _ hr]; exact fixL_wl⟩
theorem fixD_lens : Lens fixD := by
  have hr : ∀ a ∈ fixD, 0 ≤ a ∧ a ≤ 16 := by decide
  exact ⟨⟨by rw [fixD_len]; omega, hr⟩, by rw [wg_wl _ hr]; exact fixD_wl⟩
/-- A row that is filled from its beginning on. -/
def flS (l : List Int) (i : Nat) : List Int := l.take i ++ List.replicate (l.length - i) 0
theorem flS_len (l : List Int) {i : Nat} (h : i ≤ l.length) : (flS l i).length = l.length := by unfold flS; simp; omega
theorem flS_end (l : List Int) : flS l l.length = l := by unfold flS; simp
theorem flS_set (l : List Int) {i : Nat} (h : i < l.length) : (flS l i).set i (l.getD i 0) = flS l (i + 1) := by
  have e : l.take (i + 1) = l.take i ++ [l.getD i 0] := by rw [List.take_add_one]; simp [List.getD, h]
  unfold flS
  rw [List.set_append_right _ _ (by simp; omega), List.length_take, Nat.min_eq_left (by omega), Nat.sub_self, show l.length - i = (l.length - (i + 1)) + 1 by omega, List.replicate_succ, List.set_cons_zero, e, List.append_assoc]
  rfl
theorem s_fixed : Spec prog 16 [] [] (fun r H => r = .tup [.lst 0 288, .lst 1 32] ∧ H = [.lst 3 1 (R.ints .i64 fixL), .lst 3 1 (R.ints .i64 fixD)]) := by
  refine Spec_of_kF (D := fun i => if i = 1 then (4, [1000001]) else (0, [])) (ks := [0, 1, 2, 3, 4, 5, 9, 10, 34, 35]) tok mixed (fn := f16) rfl rfl rfl (by kernel_rfl) (N := 44) rfl (rs := [.tmp 0, .tmp 1]) rfl (Nat.le_of_ble_eq_true rfl) fun A C Kp E ag L q hA hC hK hE hag hL hq => ?_
  cbv
  refine ⟨⟨[[0,1,2,3],[1,0,2,3]], by kernel_rfl, fun F hF => ?_⟩⟩
  obtain ⟨zl, hzl⟩ : ∃ z : List Int, z = List.replicate 288 0 := ⟨_, rfl⟩
  obtain ⟨zd, hzd⟩ : ∃ z : List Int, z = List.replicate 32 0 := ⟨_, rfl⟩
  have h3 : F ⟨[(2, .lst 0 288), (3, .lst 1 32)], [.lst 3 1 (A.ints .i64 zl), .lst 3 1 (A.ints .i64 zd)]⟩ := by
    refine hF _ ?_
    clear hF
    cbv
    have en : A.nat 288 = 288 := by rw [natA hA]; rfl
    have en2 : A.nat 32 = 32 := by rw [natA hA]; rfl
    simp only [en]
    rw [hL]
    refine loop_keep (fun kk s => ∃ (i : Nat) (iI : Int) (t : List Int), iI = i ∧ i ≤ 288 ∧ t = flS fixL i ∧ kk = 288 - i ∧ s = ⟨[(2, .lst 0 288), (3, .lst 1 32), (9, .int .i64 288), (10, .int .i64 iI)], [.lst 3 1 (A.ints .i64 t), .lst 3 1 (A.ints .i64 zd)]⟩)
      [2, 3, 9, 10] 288 ⟨0, 0, zl, rfl, by omega, by rw [hzl]; rfl, rfl, rfl⟩ ?_
    rintro kk _ ⟨i, iI, t, hiI, hi, ht, hkk, rfl⟩
    have htl : t.length = 288 := by rw [ht, flS_len fixL (by rw [fixL_len]; exact hi), fixL_len]
    have e1 : A.bin .add .i64 iI 1 = iI + 1 := by rw [addA hA, wrap64 (by omega)]
    cbv
    (try simp only [ncast] at *)
    refine ifB_intro (fun h => ?_) (fun h => ?_)
    · have hlt := h
      (try simp only [wA hA] at hlt)
      (try rw [h]); clear h
      cbv
      (try simp only [ncast] at *)
      refine ifB_intro (fun h => ?_) (fun h => ?_)
      · have h1 := h
        (try simp only [wA hA] at h1)
        (try rw [h]); clear h
        cbv
        (try simp only [ncast] at *)
        refine wrA hA (by omega) (by omega) fun ys hys => ?_
        have hvv : fixL.getD i 0 = 8 := by
          rw [fixL_at ⟨i, by omega⟩]
          simp only
          rw [if_pos (by omega)]
        have hys : ys = flS fixL (i + 1) := by
          rw [hys, show 0 + iI.toNat = i by omega, ht, ← hvv]
          exact flS_set fixL (by rw [fixL_len]; omega)
        cbv
        (try simp only [ncast] at *)
        simp only [e1]
        subst hag
        refine ⟨288 - (i + 1), ⟨[(2, .lst 0 288), (3, .lst 1 32), (9, .int .i64 288), (10, .int .i64 (iI + 1))], [.lst 3 1 (A.ints .i64 ys), .lst 3 1 (A.ints .i64 zd)]⟩, by omega, ?_, i + 1, iI + 1, ys, by omega, by omega, hys, rfl, rfl⟩
        subst hA
        exact Sb [0, 1]
      · have h1 := h
        (try simp only [wA hA] at h1)
        (try rw [h]); clear h
        cbv
        (try simp only [ncast] at *)
        refine ifB_intro (fun h => ?_) (fun h => ?_)
        · have h2 := h
          (try simp only [wA hA] at h2)
          (try rw [h]); clear h
          cbv
          (try simp only [ncast] at *)
          refine wrA hA (by omega) (by omega) fun ys hys => ?_
          have hvv : fixL.getD i 0 = 8 := by
            rw [fixL_at ⟨i, by omega⟩]
            simp only
            rw [if_pos (by omega)]
          have hys : ys = flS fixL (i + 1) := by
            rw [hys, show 0 + iI.toNat = i by omega, ht, ← hvv]
            exact flS_set fixL (by rw [fixL_len]; omega)
          cbv
          (try simp only [ncast] at *)
          simp only [e1]
          subst hag
          refine ⟨288 - (i + 1), ⟨[(2, .lst 0 288), (3, .lst 1 32), (9, .int .i64 288), (10, .int .i64 (iI + 1))], [.lst 3 1 (A.ints .i64 ys), .lst 3 1 (A.ints .i64 zd)]⟩, by omega, ?_, i + 1, iI + 1, ys, by omega, by omega, hys, rfl, rfl⟩
          subst hA
          exact Sb [0, 1]
        · have h2 := h
          (try simp only [wA hA] at h2)
          (try rw [h]); clear h
          cbv
          (try simp only [ncast] at *)
          refine ifB_intro (fun h => ?_) (fun h => ?_)
          · have h3 := h
            (try simp only [wA hA] at h3)
            (try rw [h]); clear h
            cbv
            (try simp only [ncast] at *)
            refine wrA hA (by omega) (by omega) fun ys hys => ?_
            have hvv : fixL.getD i 0 = 9 := by
              rw [fixL_at ⟨i, by omega⟩]
              simp only
              rw [if_neg (by omega), if_pos (by omega)]
            have hys : ys = flS fixL (i + 1) := by
              rw [hys, show 0 + iI.toNat = i by omega, ht, ← hvv]
              exact flS_set fixL (by rw [fixL_len]; omega)
            cbv
            (try simp only [ncast] at *)
            simp only [e1]
            subst hag
            refine ⟨288 - (i + 1), ⟨[(2, .lst 0 288), (3, .lst 1 32), (9, .int .i64 288), (10, .int .i64 (iI + 1))], [.lst 3 1 (A.ints .i64 ys), .lst 3 1 (A.ints .i64 zd)]⟩, by omega, ?_, i + 1, iI + 1, ys, by omega, by omega, hys, rfl, rfl⟩
            subst hA
            exact Sb [0, 1]
          · have h3 := h
            (try simp only [wA hA] at h3)
            (try rw [h]); clear h
            cbv
            (try simp only [ncast] at *)
            refine wrA hA (by omega) (by omega) fun ys hys => ?_
            have hvv : fixL.getD i 0 = 7 := by
              rw [fixL_at ⟨i, by omega⟩]
              simp only
              rw [if_neg (by omega), if_neg (by omega)]
            have hys : ys = flS fixL (i + 1) := by
              rw [hys, show 0 + iI.toNat = i by omega, ht, ← hvv]
              exact flS_set fixL (by rw [fixL_len]; omega)
            cbv
            (try simp only [ncast] at *)
            simp only [e1]
            subst hag
            refine ⟨288 - (i + 1), ⟨[(2, .lst 0 288), (3, .lst 1 32), (9, .int .i64 288), (10, .int .i64 (iI + 1))], [.lst 3 1 (A.ints .i64 ys), .lst 3 1 (A.ints .i64 zd)]⟩, by omega, ?_, i + 1, iI + 1, ys, by omega, by omega, hys, rfl, rfl⟩
            subst hA
            exact Sb [0, 1]
    · have hge := h
      (try simp only [wA hA] at hge)
      (try rw [h]); clear h
      cbv
      (try simp only [ncast] at *)
      obtain ⟨fl, hfl⟩ : ∃ l, l = fixL := ⟨_, rfl⟩
      have hte : t = fl := by rw [hfl, ht, show i = fixL.length by rw [fixL_len]; omega, flS_end]
      clear hi hkk htl ht
      simp only [en2]
      refine ⟨fun kk s => ∃ (i : Nat) (iI : Int) (t : List Int), iI = i ∧ i ≤ 32 ∧ t = flS fixD i ∧ kk = 32 - i ∧ s = ⟨[(2, .lst 0 288), (3, .lst 1 32), (34, .int .i64 32), (35, .int .i64 iI)], [.lst 3 1 (A.ints .i64 fl), .lst 3 1 (A.ints .i64 t)]⟩,
        ⟨_, ⟨[(2, .lst 0 288), (3, .lst 1 32), (34, .int .i64 32), (35, .int .i64 0)], [.lst 3 1 (A.ints .i64 t), .lst 3 1 (A.ints .i64 zd)]⟩, ?_, 0, 0, zd, rfl, by omega, by rw [hzd]; rfl, rfl, by rw [hte]⟩, ?_⟩
      · subst hA
        exact Sb [0, 1]
      clear hte
      rintro kk _ ⟨i, iI, t, hiI, hi, ht, hkk, rfl⟩
      have htl : t.length = 32 := by rw [ht, flS_len fixD (by rw [fixD_len]; exact hi), fixD_len]
      have e1 : A.bin .add .i64 iI 1 = iI + 1 := by rw [addA hA, wrap64 (by omega)]
      cbv
      (try simp only [ncast] at *)
      refine ifB_intro (fun h => ?_) (fun h => ?_)
      · have hlt := h
        (try simp only [wA hA] at hlt)
        (try rw [h]); clear h
        cbv
        (try simp only [ncast] at *)
        refine wrA hA (by omega) (by omega) fun ys hys => ?_
        have hvv : fixD.getD i 0 = 5 := fixD_at ⟨i, by omega⟩
        have hys : ys = flS fixD (i + 1) := by
          rw [hys, show 0 + iI.toNat = i by omega, ht, ← hvv]
          exact flS_set fixD (by rw [fixD_len]; omega)
        cbv
        (try simp only [ncast] at *)
        simp only [e1]
        subst hag
        refine ⟨32 - (i + 1), ⟨[(2, .lst 0 288), (3, .lst 1 32), (34, .int .i64 32), (35, .int .i64 (iI + 1))], [.lst 3 1 (A.ints .i64 fl), .lst 3 1 (A.ints .i64 ys)]⟩, by omega, ?_, i + 1, iI + 1, ys, by omega, by omega, hys, rfl, rfl⟩
        subst hA
        exact Sb [0, 1]
      · have hge2 := h
        (try simp only [wA hA] at hge2)
        (try rw [h]); clear h
        cbv
        (try simp only [ncast] at *)
        have hte2 : t = fixD := by rw [ht, show i = fixD.length by rw [fixD_len]; omega, flS_end]
        rw [hte2, hfl]
        subst hA hq
        refine Fin_of ⟨[(0, .lst 0 288), (1, .lst 1 32)], [.lst 3 1 (R.ints .i64 fixL), .lst 3 1 (R.ints .i64 fixD)]⟩ ?_ ⟨rfl, rfl⟩
        exact Sb [0, 1]
  clear hF
  have hr1 : A.row 288 [.int .i64 0] = A.ints .i64 zl := by rw [hzl]; subst hA; exact row_num1
  have hr2 : A.row 32 [.int .i64 0] = A.ints .i64 zd := by rw [hzd]; subst hA; exact row_num1
  have ht : A.tn 288 = 288 := by rw [tnA hA]; rfl
  have ht2 : A.tn 32 = 32 := by rw [tnA hA]; rfl
  have hm1 : A.mks 8 288 288 := by rw [mksA hA]; omega
  have hm2 : A.mks 8 32 32 := by rw [mksA hA]; omega
  cbv
  simp only [hr1, hr2, ht, ht2, hm1, hm2, true_and]
  subst hA hag
  refine ⟨⟨0, _, by omega, ?_, h3⟩, ⟨0, _, by omega, ?_, h3⟩, trivial⟩
  · exact Sb [0, 1]
  · exact Sb [1, 0]
section
variable {A : Ar} {C : CallT} {s : St} {κ : List Nat → SV → List Ck → Prop}
theorem call_fixed (hC : C = CallX prog) (hA : A = R) (hk : κ [] (.tup [.lst (len1 s.H) 288, .lst (len1 s.H + 1) 32]) (apd s.H [.lst 3 1 (A.ints .i64 fixL), .lst 3 1 (A.ints .i64 fixD)])) : C 16 [] s κ := by
  refine cal_of hC s_fixed [] trivial trivial trivial ?_
  rintro _ _ ⟨rfl, rfl⟩
  refine ⟨_, _, s.H ++ [.lst 3 1 (A.ints .i64 fixL), .lst 3 1 (A.ints .i64 fixD)], rfl, rfl, ?_, ?_⟩
  · subst hA; rfl
  · rw [len1_eq, apd_eq] at hk
    exact hk
end
end Go.Sx

/- inflate: codes: the contract. -/
set_option maxRecDepth 100000
set_option maxHeartbeats 4000000
set_option linter.unusedVariables false
set_option linter.unusedSimpArgs false
namespace Go.Sx
open Go.Proofs.Tryd

theorem Lens.wr {l : List Int} (h : Lens l) : WrQ l 0 := .inr (.inr ⟨h.1, h.2, rfl⟩)
theorem s_codesA (la lb : Nat) (st : Int) (large : Bool) (ll dl : List Int) (hla : la = ll.length) (hlb : lb = dl.length) (hL1 : Lens ll) (hL2 : Lens dl) :
    Spec prog 52 [.ptr 0 0, .sl 3 0 la false, .sl 4 0 lb false] [.box 63 [.ptr 1 0, .ptr 2 0, .bool large, .int .i64 st, .nilP, .nilP], .vw [], .vw [], .vw (R.ints .i64 ll), .vw (R.ints .i64 dl)]
    (fun r H => ∃ (lg1 lg2 : Int) (sy1 tb1 sy2 tb2 : List Int) (dc1 dc2 : List SV) (ks1 ks2 : Nat), DecQ ll lg1 sy1 tb1 ∧ IsDC dc1 true lg1 (cvec ll) (fvec (cvec ll)) (.lst 6 ks1) tb1 ∧ ks1 = sy1.length ∧ DecQ dl lg2 sy2 tb2 ∧ IsDC dc2 true lg2 (cvec dl) (fvec (cvec dl)) (.lst 8 ks2) tb2 ∧ ks2 = sy2.length ∧ r = .int .i64 0 ∧
      H = [.box 63 [.ptr 1 0, .ptr 2 0, .bool large, .int .i64 st, .ptr 5 0, .ptr 7 0], .vw [], .vw [], .vw (R.ints .i64 ll), .vw (R.ints .i64 dl), .box 147 dc1, .lst 3 1 (R.ints .i64 sy1), .box 147 dc2, .lst 3 1 (R.ints .i64 sy2)]) := by
  refine Spec_of_kF (D := fun i => (0, [])) (ks := [0, 1, 2, 6, 7]) tok mixed (fn := f52) rfl rfl rfl (by kernel_rfl) (N := 28) rfl (rs := [.tmp 6]) rfl (Nat.le_of_ble_eq_true rfl) fun A C Kp E ag L q hA hC hK hE hag hL hq => ?_
  rw [← hA]
  cbv
  (try simp only [ncast] at *)
  refine call_cnew hC hA (hb := 3) (ln := la) (l := ll) hla (cells_vwA hA rfl hla) ⟨⟨(show 0 < 1 by omega), rfl, rfl, rfl⟩, trivial⟩ (fun e he he0 => ?_) (fun lg1 sy1 tb1 dc1 ks1 hW1 hQ1 hD1 hks1 => ?_)
  · exact absurd (WrQ_uniq he hL1.wr) he0
  · cbv
    (try simp only [ncast] at *)
    refine ifF (by simp only [neqA hA]; simp) fun h => ?_
    (try rw [h]); clear h
    cbv
    (try simp only [ncast] at *)
    refine call_cnew hC hA (hb := 4) (ln := lb) (l := dl) hlb (cells_vwA hA rfl hlb) ⟨⟨(show 0 < 1 by omega), rfl, rfl, rfl⟩, trivial⟩ (fun e he he0 => ?_) (fun lg2 sy2 tb2 dc2 ks2 hW2 hQ2 hD2 hks2 => ?_)
    · exact absurd (WrQ_uniq he hL2.wr) he0
    · cbv
      (try simp only [ncast] at *)
      subst hA hq
      refine Fin_of ⟨[(6, .int .i64 0)], [.box 63 [.ptr 1 0, .ptr 2 0, .bool large, .int .i64 st, .ptr 5 0, .ptr 7 0], .vw [], .vw [], .vw (R.ints .i64 ll), .vw (R.ints .i64 dl), .box 147 dc1, .lst 3 1 (R.ints .i64 sy1), .box 147 dc2, .lst 3 1 (R.ints .i64 sy2)]⟩ ?_ ⟨lg1, lg2, sy1, tb1, sy2, tb2, dc1, dc2, ks1, ks2, hQ1, hD1, hks1, hQ2, hD2, hks2, rfl, rfl⟩
      have dc3 : ∀ (N : Nat) (H1 : List Ck), 8 < N → H1[5]? = some (.box 147 dc1) → subC 5 N [0, 1, 2, 3, 4, 5, 6, 7, 8] H1 5 5 (.box 147 dc1) :=
        fun N H1 hN h => subC_dc hD1 (show 6 < N by omega) hD1 h
      have dc4 : ∀ (N : Nat) (H1 : List Ck), 8 < N → H1[7]? = some (.box 147 dc2) → subC 5 N [0, 1, 2, 3, 4, 5, 6, 7, 8] H1 7 7 (.box 147 dc2) :=
        fun N H1 hN h => subC_dc hD2 (show 8 < N by omega) hD2 h
      exact Sc [0, 1, 2, 3, 4, 5, 6, 7, 8] (by repeat' (first | exact dc3 _ _ (Nat.le_of_ble_eq_true rfl) rfl | exact dc4 _ _ (Nat.le_of_ble_eq_true rfl) rfl | exact trivial | exact fun _ => rfl | exact fun h => absurd h (by simp) | exact subC_ints rfl | refine And.intro ?_ ?_ | rfl | (simp [subH_nil, hLts, hLt, renCk, renC, sg, Ck.cells, R_ints_ren, R_ints_hLts]; done)))
theorem s_codesB (la lb : Nat) (st : Int) (large : Bool) (ll dl : List Int) (hla : la = ll.length) (hlb : lb = dl.length) (hL1 : Lens ll) (hL2 : Lens dl) :
    Spec prog 52 [.ptr 0 0, .sl 5 0 la false, .sl 6 0 lb false] [.box 63 [.ptr 1 0, .ptr 2 0, .bool large, .int .i64 st, .ptr 3 0, .ptr 4 0], .vw [], .vw [], .vw [], .vw [], .vw (R.ints .i64 ll), .vw (R.ints .i64 dl)]
    (fun r H => ∃ (lg1 lg2 : Int) (sy1 tb1 sy2 tb2 : List Int) (dc1 dc2 : List SV) (ks1 ks2 : Nat), DecQ ll lg1 sy1 tb1 ∧ IsDC dc1 true lg1 (cvec ll) (fvec (cvec ll)) (.lst 8 ks1) tb1 ∧ ks1 = sy1.length ∧ DecQ dl lg2 sy2 tb2 ∧ IsDC dc2 true lg2 (cvec dl) (fvec (cvec dl)) (.lst 10 ks2) tb2 ∧ ks2 = sy2.length ∧ r = .int .i64 0 ∧
      H = [.box 63 [.ptr 1 0, .ptr 2 0, .bool large, .int .i64 st, .ptr 7 0, .ptr 9 0], .vw [], .vw [], .vw [], .vw [], .vw (R.ints .i64 ll), .vw (R.ints .i64 dl), .box 147 dc1, .lst 3 1 (R.ints .i64 sy1), .box 147 dc2, .lst 3 1 (R.ints .i64 sy2)]) := by
  refine Spec_of_kF (D := fun i => (0, [])) (ks := [0, 1, 2, 6, 7]) tok mixed (fn := f52) rfl rfl rfl (by kernel_rfl) (N := 28) rfl (rs := [.tmp 6]) rfl (Nat.le_of_ble_eq_true rfl) fun A C Kp E ag L q hA hC hK hE hag hL hq => ?_
  rw [← hA]
  cbv
  (try simp only [ncast] at *)
  refine call_cnew hC hA (hb := 5) (ln := la) (l := ll) hla (cells_vwA hA rfl hla) ⟨⟨(show 0 < 1 by omega), rfl, rfl, rfl⟩, trivial⟩ (fun e he he0 => ?_) (fun lg1 sy1 tb1 dc1 ks1 hW1 hQ1 hD1 hks1 => ?_)
  · exact absurd (WrQ_uniq he hL1.wr) he0
  · cbv
    (try simp only [ncast] at *)
    refine ifF (by simp only [neqA hA]; simp) fun h => ?_
    (try rw [h]); clear h
    cbv
    (try simp only [ncast] at *)
    refine call_cnew hC hA (hb := 6) (ln := lb) (l := dl) hlb (cells_vwA hA rfl hlb) ⟨⟨(show 0 < 1 by omega), rfl, rfl, rfl⟩, trivial⟩ (fun e he he0 => ?_) (fun lg2 sy2 tb2 dc2 ks2 hW2 hQ2 hD2 hks2 => ?_)
    · exact absurd (WrQ_uniq he hL2.wr) he0
    · cbv
      (try simp only [ncast] at *)
      subst hA hq
      refine Fin_of ⟨[(6, .int .i64 0)], [.box 63 [.ptr 1 0, .ptr 2 0, .bool large, .int .i64 st, .ptr 7 0, .ptr 9 0], .vw [], .vw [], .vw [], .vw [], .vw (R.ints .i64 ll), .vw (R.ints .i64 dl), .box 147 dc1, .lst 3 1 (R.ints .i64 sy1), .box 147 dc2, .lst 3 1 (R.ints .i64 sy2)]⟩ ?_ ⟨lg1, lg2, sy1, tb1, sy2, tb2, dc1, dc2, ks1, ks2, hQ1, hD1, hks1, hQ2, hD2, hks2, rfl, rfl⟩
      have dc3 : ∀ (N : Nat) (H1 : List Ck), 10 < N → H1[7]? = some (.box 147 dc1) → subC 7 N [0, 1, 2, 3, 4, 5, 6, 7, 8, 9, 10] H1 7 7 (.box 147 dc1) :=
        fun N H1 hN h => subC_dc hD1 (show 8 < N by omega) hD1 h
      have dc4 : ∀ (N : Nat) (H1 : List Ck), 10 < N → H1[9]? = some (.box 147 dc2) → subC 7 N [0, 1, 2, 3, 4, 5, 6, 7, 8, 9, 10] H1 9 9 (.box 147 dc2) :=
        fun N H1 hN h => subC_dc hD2 (show 10 < N by omega) hD2 h
      exact Sc [0, 1, 2, 3, 4, 5, 6, 7, 8, 9, 10] (by repeat' (first | exact dc3 _ _ (Nat.le_of_ble_eq_true rfl) rfl | exact dc4 _ _ (Nat.le_of_ble_eq_true rfl) rfl | exact trivial | exact fun _ => rfl | exact fun h => absurd h (by simp) | exact subC_ints rfl | refine And.intro ?_ ?_ | rfl | (simp [subH_nil, hLts, hLt, renCk, renC, sg, Ck.cells, R_ints_ren, R_ints_hLts]; done)))
end Go.Sx

/- inflate: the document's plain, Fixed: the contracts. -/
set_option maxRecDepth 100000
set_option maxHeartbeats 4000000
set_option linter.unusedVariables false
set_option linter.unusedSimpArgs false
namespace Go.Sx
open Go.Proofs.Tryd

theorem take_s {l : List Int} {i : Nat} (h : i < l.length) : l.take i ++ [l.getD i 0] = l.take (i + 1) := by rw [List.take_add_one]; simp [List.getD, h]
theorem s_rfixed : Spec prog 17 [] [] (fun r H => r = .tup [.lst 0 288, .lst 1 32] ∧ H = [.lst 3 1 (R.ints .i64 fixL), .lst 3 1 (R.ints .i64 fixD)]) := by
  refine Spec_of_kF (D := fun i => (0, [])) (ks := [0, 1, 2, 3, 4, 5, 6]) tok mixed (fn := f17) rfl rfl rfl (by kernel_rfl) (N := 36) rfl (rs := [.tmp 0, .tmp 1]) rfl (Nat.le_of_ble_eq_true rfl) fun A C Kp E ag L q hA hC hK hE hag hL hq => ?_
  cbv
  rw [hL]
  refine ⟨fun kk s => ∃ (i k : Nat) (iI : Int) (t : List Int), iI = i ∧ i ≤ 288 ∧ t = fixL.take i ∧ k = i ∧ kk = 288 - i ∧ s = ⟨[(2, .lst 0 k), (3, .nilS), (4, .int .i64 iI)], [.lst 3 1 (A.ints .i64 t)]⟩,
    ⟨_, ⟨[(2, .lst 0 0), (3, .nilS), (4, .int .i64 0)], [.lst 3 1 (A.ints .i64 [])]⟩, ?_, 0, 0, 0, [], rfl, by omega, rfl, rfl, rfl, rfl⟩, ?_⟩
  · subst hA
    refine (Sub_nilT (i := 2) 3 1 rfl).trans ?_
    exact Sb [0]
  rintro kk _ ⟨i, k, iI, t, hiI, hi, ht, hk, hkk, rfl⟩
  have htl : t.length = i := by rw [ht, List.length_take, fixL_len]; omega
  have e1 : A.bin .add .i64 iI 1 = iI + 1 := by rw [addA hA, wrap64 (by omega)]
  cbv
  (try simp only [ncast] at *)
  refine ifB_intro (fun h => ?_) (fun h => ?_)
  · have hlt := h
    (try simp only [wA hA] at hlt)
    (try rw [h]); clear h
    cbv
    (try simp only [ncast] at *)
    refine ifB_intro (fun h => ?_) (fun h => ?_)
    · have a1 := h
      (try simp only [wA hA] at a1)
      (try rw [h]); clear h
      cbv
      (try simp only [ncast] at *)
      refine ifB_intro (fun h => ?_) (fun h => ?_)
      · have a2 := h
        (try simp only [wA hA] at a2)
        (try rw [h]); clear h
        cbv
        (try simp only [ncast] at *)
        refine ifB_intro (fun h => ?_) (fun h => ?_)
        · have a3 := h
          (try simp only [wA hA] at a3)
          (try rw [h]); clear h
          cbv
          (try simp only [ncast] at *)
          exact absurd a3 (by omega)
        · have a3 := h
          (try simp only [wA hA] at a3)
          (try rw [h]); clear h
          cbv
          (try simp only [ncast] at *)
          have ha := apdA1 hA .i64 t 9
          refine ⟨?_, ?_, ?_⟩
          · subst hA
            show (R.ints .i64 t).length = k * 1
            rw [R_ints_length]; omega
          · subst hA
            show (k + 1) * 8 ≤ room
            unfold room; omega
          have hvv : fixL.getD i 0 = 9 := by
            rw [fixL_at ⟨i, by omega⟩]
            simp only
            rw [if_neg (by omega), if_pos (by omega)]
          have hys : t ++ [9] = fixL.take (i + 1) := by rw [← hvv, ht, take_s (by rw [fixL_len]; omega)]
          cbv
          (try simp only [ncast] at *)
          simp only [e1]
          subst hag
          refine ⟨288 - (i + 1), ⟨[(2, .lst 0 (k + 1)), (3, .nilS), (4, .int .i64 (iI + 1))], [.lst 3 1 (A.ints .i64 (t ++ [9]))]⟩, by omega, ?_, i + 1, k + 1, iI + 1, t ++ [9], by omega, by omega, hys, by omega, rfl, rfl⟩
          subst hA
          exact Sd [2] (by repeat' (first | exact trivial | exact fun _ => rfl | exact fun h => absurd h (by simp) | exact subC_ints rfl | exact subC_ints (congrArg (fun l => some (Ck.lst _ _ l)) ha) | refine And.intro ?_ ?_ | rfl | (simp [subH_nil, hLts, hLt, renCk, renC, sg, Ck.cells, R_ints_ren, R_ints_hLts, ha]; done))) (by repeat' (first | exact trivial | exact .inr ⟨trivial, rfl⟩ | exact .inr ⟨by simp [vOk, hLt, hLts, ha], rfl⟩ | refine And.intro ?_ ?_))
      · have a2 := h
        (try simp only [wA hA] at a2)
        (try rw [h]); clear h
        cbv
        (try simp only [ncast] at *)
        refine ifB_intro (fun h => ?_) (fun h => ?_)
        · have a3 := h
          (try simp only [wA hA] at a3)
          (try rw [h]); clear h
          cbv
          (try simp only [ncast] at *)
          refine ifB_intro (fun h => ?_) (fun h => ?_)
          · have a4 := h
            (try simp only [wA hA] at a4)
            (try rw [h]); clear h
            cbv
            (try simp only [ncast] at *)
            have ha := apdA1 hA .i64 t 7
            refine ⟨?_, ?_, ?_⟩
            · subst hA
              show (R.ints .i64 t).length = k * 1
              rw [R_ints_length]; omega
            · subst hA
              show (k + 1) * 8 ≤ room
              unfold room; omega
            have hvv : fixL.getD i 0 = 7 := by
              rw [fixL_at ⟨i, by omega⟩]
              simp only
              rw [if_neg (by omega), if_neg (by omega)]
            have hys : t ++ [7] = fixL.take (i + 1) := by rw [← hvv, ht, take_s (by rw [fixL_len]; omega)]
            cbv
            (try simp only [ncast] at *)
            simp only [e1]
            subst hag
            refine ⟨288 - (i + 1), ⟨[(2, .lst 0 (k + 1)), (3, .nilS), (4, .int .i64 (iI + 1))], [.lst 3 1 (A.ints .i64 (t ++ [7]))]⟩, by omega, ?_, i + 1, k + 1, iI + 1, t ++ [7], by omega, by omega, hys, by omega, rfl, rfl⟩
            subst hA
            exact Sd [2] (by repeat' (first | exact trivial | exact fun _ => rfl | exact fun h => absurd h (by simp) | exact subC_ints rfl | exact subC_ints (congrArg (fun l => some (Ck.lst _ _ l)) ha) | refine And.intro ?_ ?_ | rfl | (simp [subH_nil, hLts, hLt, renCk, renC, sg, Ck.cells, R_ints_ren, R_ints_hLts, ha]; done))) (by repeat' (first | exact trivial | exact .inr ⟨trivial, rfl⟩ | exact .inr ⟨by simp [vOk, hLt, hLts, ha], rfl⟩ | refine And.intro ?_ ?_))
          · have a4 := h
            (try simp only [wA hA] at a4)
            (try rw [h]); clear h
            cbv
            (try simp only [ncast] at *)
            have ha := apdA1 hA .i64 t 8
            refine ⟨?_, ?_, ?_⟩
            · subst hA
              show (R.ints .i64 t).length = k * 1
              rw [R_ints_length]; omega
            · subst hA
              show (k + 1) * 8 ≤ room
              unfold room; omega
            have hvv : fixL.getD i 0 = 8 := by
              rw [fixL_at ⟨i, by omega⟩]
              simp only
              rw [if_pos (by omega)]
            have hys : t ++ [8] = fixL.take (i + 1) := by rw [← hvv, ht, take_s (by rw [fixL_len]; omega)]
            cbv
            (try simp only [ncast] at *)
            simp only [e1]
            subst hag
            refine ⟨288 - (i + 1), ⟨[(2, .lst 0 (k + 1)), (3, .nilS), (4, .int .i64 (iI + 1))], [.lst 3 1 (A.ints .i64 (t ++ [8]))]⟩, by omega, ?_, i + 1, k + 1, iI + 1, t ++ [8], by omega, by omega, hys, by omega, rfl, rfl⟩
            subst hA
            exact Sd [2] (by repeat' (first | exact trivial | exact fun _ => rfl | exact fun h => absurd h (by simp) | exact subC_ints rfl | exact subC_ints (congrArg (fun l => some (Ck.lst _ _ l)) ha) | refine And.intro ?_ ?_ | rfl | (simp [subH_nil, hLts, hLt, renCk, renC, sg, Ck.cells, R_ints_ren, R_ints_hLts, ha]; done))) (by repeat' (first | exact trivial | exact .inr ⟨trivial, rfl⟩ | exact .inr ⟨by simp [vOk, hLt, hLts, ha], rfl⟩ | refine And.intro ?_ ?_))
        · have a3 := h
          (try simp only [wA hA] at a3)
          (try rw [h]); clear h
          cbv
          (try simp only [ncast] at *)
          exact absurd a3 (by omega)
    · have a1 := h
      (try simp only [wA hA] at a1)
      (try rw [h]); clear h
      cbv
      (try simp only [ncast] at *)
      refine ifB_intro (fun h => ?_) (fun h => ?_)
      · have a3 := h
        (try simp only [wA hA] at a3)
        (try rw [h]); clear h
        cbv
        (try simp only [ncast] at *)
        exact absurd a3 (by omega)
      · have a3 := h
        (try simp only [wA hA] at a3)
        (try rw [h]); clear h
        cbv
        (try simp only [ncast] at *)
        have ha := apdA1 hA .i64 t 8
        refine ⟨?_, ?_, ?_⟩
        · subst hA
          show (R.ints .i64 t).length = k * 1
          rw [R_ints_length]; omega
        · subst hA
          show (k + 1) * 8 ≤ room
          unfold room; omega
        have hvv : fixL.getD i 0 = 8 := by
          rw [fixL_at ⟨i, by omega⟩]
          simp only
          rw [if_pos (by omega)]
        have hys : t ++ [8] = fixL.take (i + 1) := by rw [← hvv, ht, take_s (by rw [fixL_len]; omega)]
        cbv
        (try simp only [ncast] at *)
        simp only [e1]
        subst hag
        refine ⟨288 - (i + 1), ⟨[(2, .lst 0 (k + 1)), (3, .nilS), (4, .int .i64 (iI + 1))], [.lst 3 1 (A.ints .i64 (t ++ [8]))]⟩, by omega, ?_, i + 1, k + 1, iI + 1, t ++ [8], by omega, by omega, hys, by omega, rfl, rfl⟩
        subst hA
        exact Sd [2] (by repeat' (first | exact trivial | exact fun _ => rfl | exact fun h => absurd h (by simp) | exact subC_ints rfl | exact subC_ints (congrArg (fun l => some (Ck.lst _ _ l)) ha) | refine And.intro ?_ ?_ | rfl | (simp [subH_nil, hLts, hLt, renCk, renC, sg, Ck.cells, R_ints_ren, R_ints_hLts, ha]; done))) (by repeat' (first | exact trivial | exact .inr ⟨trivial, rfl⟩ | exact .inr ⟨by simp [vOk, hLt, hLts, ha], rfl⟩ | refine And.intro ?_ ?_))
  · have hge := h
    (try simp only [wA hA] at hge)
    (try rw [h]); clear h
    cbv
    (try simp only [ncast] at *)
    obtain ⟨fl, hfl⟩ : ∃ l, l = fixL := ⟨_, rfl⟩
    have hte : t = fl := by rw [ht, hfl, show i = fixL.length by rw [fixL_len]; omega, List.take_length]
    have hk288 : k = 288 := by omega
    rw [hte, hk288]
    clear ht hte hi hk hk288 hkk htl
    refine ⟨fun kk s => ∃ (i k : Nat) (iI : Int) (t : List Int), iI = i ∧ i ≤ 32 ∧ t = fixD.take i ∧ k = i ∧ kk = 32 - i ∧ s = ⟨[(2, .lst 0 288), (3, .lst 1 k), (6, .int .i64 iI)], [.lst 3 1 (A.ints .i64 fl), .lst 3 1 (A.ints .i64 t)]⟩,
      ⟨_, ⟨[(2, .lst 0 288), (3, .lst 1 0), (6, .int .i64 0)], [.lst 3 1 (A.ints .i64 fl), .lst 3 1 (A.ints .i64 [])]⟩, ?_, 0, 0, 0, [], rfl, by omega, rfl, rfl, rfl, rfl⟩, ?_⟩
    · subst hA
      refine (Sub_nilT (i := 3) 3 1 rfl).trans ?_
      exact Sb [0, 1]
    rintro kk _ ⟨i, k, iI, t, hiI, hi, ht, hk, hkk, rfl⟩
    have htl : t.length = i := by rw [ht, List.length_take, fixD_len]; omega
    have e1 : A.bin .add .i64 iI 1 = iI + 1 := by rw [addA hA, wrap64 (by omega)]
    cbv
    (try simp only [ncast] at *)
    refine ifB_intro (fun h => ?_) (fun h => ?_)
    · have hlt := h
      (try simp only [wA hA] at hlt)
      (try rw [h]); clear h
      cbv
      (try simp only [ncast] at *)
      have ha := apdA1 hA .i64 t 5
      refine ⟨?_, ?_, ?_⟩
      · subst hA
        show (R.ints .i64 t).length = k * 1
        rw [R_ints_length]; omega
      · subst hA
        show (k + 1) * 8 ≤ room
        unfold room; omega
      have hvv : fixD.getD i 0 = 5 := fixD_at ⟨i, by omega⟩
      have hys : t ++ [5] = fixD.take (i + 1) := by rw [← hvv, ht, take_s (by rw [fixD_len]; omega)]
      cbv
      (try simp only [ncast] at *)
      simp only [e1]
      subst hag
      refine ⟨32 - (i + 1), ⟨[(2, .lst 0 288), (3, .lst 1 (k + 1)), (6, .int .i64 (iI + 1))], [.lst 3 1 (A.ints .i64 fl), .lst 3 1 (A.ints .i64 (t ++ [5]))]⟩, by omega, ?_, i + 1, k + 1, iI + 1, t ++ [5], by omega, by omega, hys, by omega, rfl, rfl⟩
      subst hA
      exact Sd [0, 3] (by repeat' (first | exact trivial | exact fun _ => rfl | exact fun h => absurd h (by simp) | exact subC_ints rfl | exact subC_ints (congrArg (fun l => some (Ck.lst _ _ l)) ha) | refine And.intro ?_ ?_ | rfl | (simp [subH_nil, hLts, hLt, renCk, renC, sg, Ck.cells, R_ints_ren, R_ints_hLts, ha]; done))) (by repeat' (first | exact trivial | exact .inr ⟨trivial, rfl⟩ | exact .inr ⟨by simp [vOk, hLt, hLts, ha], rfl⟩ | refine And.intro ?_ ?_))
    · have hge2 := h
      (try simp only [wA hA] at hge2)
      (try rw [h]); clear h
      cbv
      (try simp only [ncast] at *)
      have hte2 : t = fixD := by rw [ht, show i = fixD.length by rw [fixD_len]; omega, List.take_length]
      have hk32 : k = 32 := by omega
      rw [hte2, hfl, hk32]
      subst hA hq
      refine Fin_of ⟨[(0, .lst 0 288), (1, .lst 1 32)], [.lst 3 1 (R.ints .i64 fixL), .lst 3 1 (R.ints .i64 fixD)]⟩ ?_ ⟨rfl, rfl⟩
      exact Sb [0, 1]
section
variable {A : Ar} {C : CallT} {s : St} {κ : List Nat → SV → List Ck → Prop}
theorem call_rfixed (hC : C = CallX prog) (hA : A = R) (hk : κ [] (.tup [.lst (len1 s.H) 288, .lst (len1 s.H + 1) 32]) (apd s.H [.lst 3 1 (A.ints .i64 fixL), .lst 3 1 (A.ints .i64 fixD)])) : C 17 [] s κ := by
  refine cal_of hC s_rfixed [] trivial trivial trivial ?_
  rintro _ _ ⟨rfl, rfl⟩
  refine ⟨_, _, s.H ++ [.lst 3 1 (A.ints .i64 fixL), .lst 3 1 (A.ints .i64 fixD)], rfl, rfl, ?_, ?_⟩
  · subst hA; rfl
  · rw [len1_eq, apd_eq] at hk
    exact hk
end
end Go.Sx
