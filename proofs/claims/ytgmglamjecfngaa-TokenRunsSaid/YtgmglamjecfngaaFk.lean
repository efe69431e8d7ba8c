/- hist: the contract of Copy. -/
import Derived.Test.YtgmglamjecfngaaFj
import Derived.Test.YtgmglamjecfngaaFc
set_option maxRecDepth 100000
set_option maxHeartbeats 4000000
set_option linter.unusedVariables false
set_option linter.unusedSimpArgs false
namespace Go.Sx
open Go.Proofs.Try

/-- Byte by byte. -/
def cp (xs : List Int) (d : Nat) : Nat → List Int
  | 0 => xs
  | n + 1 => cp (xs ++ [if d ≤ xs.length then xs.getD (xs.length - d) 0 else 0]) d n

theorem cp_len (d : Nat) : ∀ (n : Nat) (xs : List Int), (cp xs d n).length = xs.length + n
  | 0, xs => rfl
  | n + 1, xs => by rw [cp, cp_len d n]; simp; omega

/-- A piece at once: as many bytes as stand there. -/
theorem cp_piece (d : Nat) (hd : 0 < d) : ∀ (k r : Nat) (xs : List Int), k ≤ d → d ≤ xs.length → cp xs d (k + r) = cp (xs ++ (xs.drop (xs.length - d)).take k) d r := by
  intro k
  induction k with
  | zero => intro r xs _ _; simp
  | succ k ih =>
    intro r xs hk hx
    rw [show k + 1 + r = k + (r + 1) by omega, ih (r + 1) xs (by omega) hx, cp]
    have hl : (xs.drop (xs.length - d)).length = d := by simp; omega
    have hlt : ((xs.drop (xs.length - d)).take k).length = k := by simp; omega
    have hlen : (xs ++ (xs.drop (xs.length - d)).take k).length = xs.length + k := by rw [List.length_append, hlt]
    rw [hlen, if_pos (by omega)]
    have e : (xs ++ (xs.drop (xs.length - d)).take k).getD (xs.length + k - d) 0 = (xs.drop (xs.length - d)).getD k 0 := by
      simp only [List.getD]
      rw [List.getElem?_append_left (by omega), List.getElem?_drop]
      rw [show xs.length + k - d = xs.length - d + k by omega]
    have t : (xs.drop (xs.length - d)).take (k + 1) = (xs.drop (xs.length - d)).take k ++ [(xs.drop (xs.length - d)).getD k 0] := by
      rw [List.take_add_one]
      simp [List.getD, show k < (xs.drop (xs.length - d)).length by omega]
      rw [List.getElem?_eq_getElem (by omega)]
      simp
    rw [e, t, List.append_assoc]

def CpQ (wd mo : Int) (nn : Bool) (xs : List Int) (dist n : Int) (e : Int) (ys : List Int) : Prop :=
  ((dist < 1 ∨ n < 0) ∧ e = 2 ∧ ys = xs) ∨
  (1 ≤ dist ∧ 0 ≤ n ∧ (wd < dist ∨ ((xs.length : Int) < dist ∧ nn = false)) ∧ e = 8 ∧ ys = xs) ∨
  (1 ≤ dist ∧ 0 ≤ n ∧ dist ≤ wd ∧ (dist ≤ (xs.length : Int) ∨ nn = true) ∧ mo - xs.length < n ∧ e = 9 ∧ ys = xs) ∨
  (1 ≤ dist ∧ 0 ≤ n ∧ dist ≤ wd ∧ (dist ≤ (xs.length : Int) ∨ nn = true) ∧ n ≤ mo - xs.length ∧ e = 0 ∧ ys = cp xs dist.toNat n.toNat)

def DQ (nn : Bool) (xs : List Int) (dist : Int) : Prop := dist ≤ (xs.length : Int) ∨ nn = true
def MQ (mo n : Int) (xs : List Int) : Prop := 0 ≤ mo ∧ mo ≤ 9223372036854775807 ∧ xs.length ≤ 100000000000 ∧ (n ≤ mo - xs.length → (xs.length : Int) + n ≤ 100000000000)
/-- On the way: what is left to be told. -/
def WQ (xs zs : List Int) (dist n n' : Int) (k : Nat) : Prop := k = zs.length ∧ 0 ≤ n' ∧ cp zs dist.toNat n'.toNat = cp xs dist.toNat n.toNat ∧ (zs.length : Int) + n' ≤ 100000000000

def W2 (dist n' : Int) (k : Nat) : Prop := n' ≤ 0 ∨ dist ≤ (k : Int)

def PQ (A : Ar) (zs P : List Int) (k' d r c : Nat) (dist n' : Int) : Prop :=
  dist = d ∧ n'.toNat - min n'.toNat d = r ∧ n' = (c : Int) + r ∧ P = (zs.drop (zs.length - d)).take c ∧ c ≤ d ∧ 0 < c ∧
    A.cnt (A.bin .add .i64 (A.bin .sub .i64 (A.nat k') dist) (A.mn n' dist)) (A.bin .sub .i64 (A.nat k') dist) = c ∧ A.bin .sub .i64 n' (A.mn n' dist) = (r : Int)

theorem s_copy (wd mo dist n : Int) (k : Nat) (nn : Bool) (xs : List Int) (hk : k = xs.length) (hw : 0 < wd) (hM : MQ mo n xs) : Spec prog 49 [.ptr 0 0, .int .i64 dist, .int .i64 n] [.box 106 [.int .i64 wd, .int .i64 mo, .bool nn, .lst 1 k], .lst 5 1 (R.ints .u8 xs)]
    (fun r H => ∃ (e : Int) (k : Nat) (ys : List Int), CpQ wd mo nn xs dist n e ys ∧ k = ys.length ∧ r = .int .i64 e ∧ H = [.box 106 [.int .i64 wd, .int .i64 mo, .bool nn, .lst 2 k], .gone, .lst 5 1 (R.ints .u8 ys)]) := by
  refine Spec_of_xF (D := fun i => if i = 7 then (11, []) else if i = 15 then (15, [2]) else (0, [])) (ks := [0, 1, 2, 6, 7, 8]) tok mixed (fn := f49) rfl rfl rfl (by kernel_rfl) (N := 110) rfl (rs := [.tmp 6]) rfl (by show 3 ≤ 110; omega) fun A C ag L fi hA hC hag hL hfi => ?_
  have err : ∀ (t : List (Nat × SV)) (e : Int), look t 6 = .int .i64 e → CpQ wd mo nn xs dist n e xs → fi ⟨t, [.box 106 [.int .i64 wd, .int .i64 mo, .bool nn, .lst 1 k], .lst 5 1 (A.ints .u8 xs)]⟩ := by
    intro t e he hq
    subst hA hfi
    refine Fin_of ⟨[(6, .int .i64 e)], [.box 106 [.int .i64 wd, .int .i64 mo, .bool nn, .lst 2 k], .gone, .lst 5 1 (R.ints .u8 xs)]⟩
      (Sub_of [0, 1, 1] (by simp [sigOk, ndG]) (by simp) ⟨fun _ => rfl, (by simp), ⟨⟨trivial, trivial, trivial, (show 2 < 3 by omega), trivial⟩, rfl⟩, fun _ => rfl, (by simp), trivial, fun h => absurd h (by simp), (by simp), subC_ints rfl, trivial⟩ ⟨.inr ⟨trivial, he⟩, trivial⟩) ?_
    exact ⟨e, k, xs, hq, hk, rfl, rfl⟩
  rw [← hA]
  cbv
  refine cal_vw hC (s_ok wd mo 0 k nn) [(0, 0, false), (1, 0, false)] rfl (matchV2 ⟨trivial, trivial, trivial, (show 1 < 2 by omega), trivial⟩ ⟨trivial, trivial, trivial, rfl, trivial⟩ rfl rfl (by simp)) ⟨⟨(show 0 < 2 by omega), trivial, rfl⟩, trivial⟩ rfl ?_
  rw [decide_eq_true hw]
  cbv
  refine ifB_intro (fun h => ?_) (fun h => ?_)
  · subst hA; exact absurd h (by decide)
  clear h
  cbv
  refine ifB_intro (fun h => ?_) (fun h => ?_)
  · rw [h]
    cbv
    exact err _ _ rfl (.inl ⟨.inl (by subst hA; exact of_decide_eq_true h), rfl, rfl⟩)
  have h1 : 1 ≤ dist := by subst hA; have h : ¬ dist < 1 := of_decide_eq_false h; omega
  rw [h]
  clear h
  cbv
  refine ifB_intro (fun h => ?_) (fun h => ?_)
  · cbv
    exact err _ _ rfl (.inl ⟨.inr (by subst hA; exact of_decide_eq_true h), rfl, rfl⟩)
  have h0 : 0 ≤ n := by subst hA; have h : ¬ n < 0 := of_decide_eq_false h; omega
  clear h
  cbv
  refine ifB_intro (fun h => ?_) (fun h => ?_)
  · rw [h]
    cbv
    exact err _ _ rfl (.inr (.inl ⟨h1, h0, .inl (by subst hA; exact of_decide_eq_true h), rfl, rfl⟩))
  have h2 : dist ≤ wd := by subst hA; have h : ¬ wd < dist := of_decide_eq_false h; omega
  rw [h]
  clear h
  cbv
  refine ifB_intro (fun h => ?_) (fun h => ?_)
  rw [h]
  cbv
  refine ifB_intro (fun h' => ?_) (fun h' => ?_)
  · cbv
    refine err _ _ rfl (.inr (.inl ⟨h1, h0, .inr ?_, rfl, rfl⟩))
    subst hA
    have h : (k : Int) < dist := of_decide_eq_true h
    have h' : (!nn) = true := h'
    exact ⟨by omega, by simpa using h'⟩
  have hD : DQ nn xs dist := by
    subst hA
    have h' : (!nn) = false := h'
    exact .inr (by simpa using h')
  clear h h'
  rotate_left
  rw [h]
  have hD : DQ nn xs dist := by
    subst hA
    have h : ¬ (k : Int) < dist := of_decide_eq_false h
    exact .inl (by omega)
  clear h
  all_goals
    cbv
    refine ifB_intro (fun h => ?_) (fun h => ?_)
    · cbv
      refine err _ _ rfl (.inr (.inr (.inl ⟨h1, h0, h2, hD, ?_, rfl, rfl⟩)))
      obtain ⟨m0, m1, m2, m3⟩ := hM
      subst hA
      have h : IntKind.i64.wrap (mo - (k : Int)) < n := of_decide_eq_true h
      rw [wrap64 (by omega)] at h
      omega
    have hW : WQ xs xs dist n n k ∧ n ≤ mo - xs.length := by
      obtain ⟨m0, m1, m2, m3⟩ := hM
      subst hA
      have h : ¬ IntKind.i64.wrap (mo - (k : Int)) < n := of_decide_eq_false h
      rw [wrap64 (by omega)] at h
      exact ⟨⟨hk, h0, rfl, m3 (by omega)⟩, by omega⟩
    have fin : ∀ (t : List (Nat × SV)) (zs : List Int) (k' : Nat), look t 6 = .int .i64 0 → WQ xs zs dist n 0 k' → fi ⟨t, [.box 106 [.int .i64 wd, .int .i64 mo, .bool nn, .lst 2 k'], .gone, .lst 5 1 (A.ints .u8 zs)]⟩ := by
      intro t zs k' ht hq
      have hz : zs = cp xs dist.toNat n.toNat := hq.2.2.1
      subst hA hfi
      refine Fin_of ⟨[(6, .int .i64 0)], [.box 106 [.int .i64 wd, .int .i64 mo, .bool nn, .lst 2 k'], .gone, .lst 5 1 (R.ints .u8 zs)]⟩
        (Sub_of [0, 1, 2] (by simp [sigOk, ndG]) (by simp) ⟨fun _ => rfl, (by simp), ⟨⟨trivial, trivial, trivial, (show 2 < 3 by omega), trivial⟩, rfl⟩, fun _ => rfl, (by simp), trivial, fun h => absurd h (by simp), (by simp), subC_ints rfl, trivial⟩ ⟨.inr ⟨trivial, ht⟩, trivial⟩) ?_
      exact ⟨0, k', zs, .inr (.inr (.inr ⟨h1, h0, h2, hD, hW.2, rfl, hz⟩)), hq.1, rfl, rfl⟩
    obtain ⟨hW, -⟩ := hW
    clear h err
    cbv
    rw [hL]
    refine ⟨fun kk s => ∃ (zs : List Int) (k' : Nat) (n' : Int), WQ xs zs dist n n' k' ∧ kk = n'.toNat ∧ s = ⟨[(0, .ptr 0 0), (1, .int .i64 dist), (2, .int .i64 n'), (6, .int .i64 0)], [.box 106 [.int .i64 wd, .int .i64 mo, .bool nn, .lst 2 k'], .gone, .lst 5 1 (A.ints .u8 zs)]⟩,
      ⟨n.toNat, ⟨[(0, .ptr 0 0), (1, .int .i64 dist), (2, .int .i64 n), (6, .int .i64 0)], [.box 106 [.int .i64 wd, .int .i64 mo, .bool nn, .lst 2 k], .gone, .lst 5 1 (A.ints .u8 xs)]⟩, ?_, xs, k, n, hW, rfl, rfl⟩, ?_⟩
    · subst hA
      exact Sub_of [0, 1, 1] (by simp [sigOk, ndG]) (by simp) ⟨fun _ => rfl, (by simp), ⟨⟨trivial, trivial, trivial, (show 2 < 3 by omega), trivial⟩, rfl⟩, fun _ => rfl, (by simp), trivial, fun h => absurd h (by simp), (by simp), subC_ints rfl, trivial⟩
        ⟨.inr ⟨(show 0 < 3 by omega), rfl⟩, .inr ⟨trivial, rfl⟩, .inr ⟨trivial, rfl⟩, .inr ⟨trivial, rfl⟩, trivial⟩
    clear hW
    rintro kk _ ⟨zs, k', n', hW, hkk, rfl⟩
    cbv
    refine ifB_intro (fun h => ?_) (fun h => ?_)
    rw [h]
    cbv
    refine ifB_intro (fun h' => ?_) (fun h' => ?_)
    · rw [h']
      cbv
      have ha := apdA1 hA .u8 zs 0
      refine ⟨?_, ?_, ?_⟩
      · obtain ⟨w1, -⟩ := hW
        subst hA
        show (R.ints .u8 zs).length = k' * 1
        rw [R_ints_length]; omega
      · obtain ⟨w1, w2, w3, w4⟩ := hW
        subst hA
        show (k' + 1) * 1 ≤ room
        unfold room; omega
      subst hA hag
      obtain ⟨w1, w2, w3, w4⟩ := hW
      have h : 0 < n' := of_decide_eq_true h
      have h' : (k' : Int) < dist := of_decide_eq_true h'
      have e : IntKind.i64.wrap (n' - 1) = n' - 1 := wrap64 (by omega)
      refine ⟨(n' - 1).toNat, ⟨[(0, .ptr 0 0), (1, .int .i64 dist), (2, .int .i64 (IntKind.i64.wrap (n' - 1))), (6, .int .i64 0)], [.box 106 [.int .i64 wd, .int .i64 mo, .bool nn, .lst 2 (k' + 1)], .gone, .lst 5 1 (R.ints .u8 (zs ++ [0]))]⟩, by omega, ?_, zs ++ [0], k' + 1, IntKind.i64.wrap (n' - 1), ⟨?_, ?_, ?_, ?_⟩, by rw [e], rfl⟩
      · exact Sub_of [0, 1, 4] (by simp [sigOk, ndG]) (by simp) ⟨fun _ => rfl, (by simp), ⟨⟨trivial, trivial, trivial, (show 2 < 3 by omega), trivial⟩, rfl⟩, fun _ => rfl, (by simp), trivial, fun h => absurd h (by simp), (by simp), subC_ints (congrArg (fun l => some (Ck.lst 5 1 l)) ha), trivial⟩
          ⟨.inr ⟨(show 0 < 3 by omega), rfl⟩, .inr ⟨trivial, rfl⟩, .inr ⟨trivial, rfl⟩, .inr ⟨trivial, rfl⟩, trivial⟩
      · simp; omega
      · omega
      · rw [e, ← w3, show n'.toNat = (n' - 1).toNat + 1 by omega, cp, if_neg (by omega)]
      · rw [e]; simp; omega
    rw [h']
    have hV : W2 dist n' k' := by
      subst hA
      have h' : ¬ (k' : Int) < dist := of_decide_eq_false h'
      exact .inr (by omega)
    rotate_left
    rw [h]
    have hV : W2 dist n' k' := by
      subst hA
      have h : ¬ 0 < n' := of_decide_eq_false h
      exact .inl (by omega)
    all_goals
      clear h
      cbv
      refine loop_keep (fun kk s => ∃ (zs : List Int) (k' : Nat) (n' : Int), WQ xs zs dist n n' k' ∧ W2 dist n' k' ∧ kk = n'.toNat ∧ s = ⟨[(0, .ptr 0 0), (1, .int .i64 dist), (2, .int .i64 n'), (6, .int .i64 0)], [.box 106 [.int .i64 wd, .int .i64 mo, .bool nn, .lst 2 k'], .gone, .lst 5 1 (A.ints .u8 zs)]⟩) [0, 1, 2, 6] _ ⟨zs, k', n', hW, hV, rfl, rfl⟩ ?_
      clear hW hV
      rintro kk2 _ ⟨zs, k', n', hW, hV, hkk2, rfl⟩
      cbv
      refine ifB_intro (fun h => ?_) (fun h => ?_)
      · cbv
        obtain ⟨d, r, c, P, hP, hf1, hf2, hf3, hf4, hsub⟩ : ∃ (d r c : Nat) (P : List Int), PQ A zs P k' d r c dist n' ∧
            A.ge0 (A.bin .sub .i64 (A.nat k') dist) ∧ A.leI (A.bin .sub .i64 (A.nat k') dist) (A.bin .add .i64 (A.bin .sub .i64 (A.nat k') dist) (A.mn n' dist)) ∧ A.leI (A.bin .add .i64 (A.bin .sub .i64 (A.nat k') dist) (A.mn n' dist)) (A.nat k') ∧
            A.fit (A.add k' (A.cnt (A.bin .add .i64 (A.bin .sub .i64 (A.nat k') dist) (A.mn n' dist)) (A.bin .sub .i64 (A.nat k') dist))) 1 ∧
            sub1 (A.ints .u8 zs) (A.ix 0 (A.bin .sub .i64 (A.nat k') dist) 1) (A.cnt (A.bin .add .i64 (A.bin .sub .i64 (A.nat k') dist) (A.mn n' dist)) (A.bin .sub .i64 (A.nat k') dist)) = some (A.ints .u8 P) := by
          obtain ⟨w1, w2, w3, w4⟩ := hW
          have hn0 : 0 < n' := by subst hA; exact of_decide_eq_true h
          have hdk : dist ≤ (k' : Int) := by
            rcases hV with hV | hV
            · omega
            · exact hV
          obtain ⟨d, rfl⟩ : ∃ d : Nat, dist = d := ⟨dist.toNat, by omega⟩
          obtain ⟨N, rfl⟩ : ∃ N : Nat, n' = N := ⟨n'.toNat, by omega⟩
          have e1 : A.bin .sub .i64 (A.nat k') (d : Int) = (k' : Int) - d := by subst hA; exact wrap64 (n := (k' : Int) - d) (by omega)
          have e2 : A.mn (N : Int) (d : Int) = ((min N d : Nat) : Int) := by
            subst hA
            show (if (d : Int) < N then (d : Int) else N) = _
            split <;> omega
          have e3 : A.bin .add .i64 ((k' : Int) - d) ((min N d : Nat) : Int) = ((k' - d + min N d : Nat) : Int) := by
            subst hA
            have := wrap64 (n := (k' : Int) - d + ((min N d : Nat) : Int)) (by omega)
            exact this.trans (by omega)
          have e4 : A.cnt ((k' - d + min N d : Nat) : Int) ((k' : Int) - d) = min N d := by
            subst hA
            show (((k' - d + min N d : Nat) : Int) - ((k' : Int) - d)).toNat = _
            omega
          have e5 : A.bin .sub .i64 (N : Int) ((min N d : Nat) : Int) = ((N - min N d : Nat) : Int) := by
            subst hA
            have := wrap64 (n := (N : Int) - ((min N d : Nat) : Int)) (by omega)
            exact this.trans (by omega)
          have e6 : A.ix 0 ((k' : Int) - d) 1 = zs.length - d := by
            subst hA
            show 0 + ((k' : Int) - d).toNat * 1 = _
            omega
          refine ⟨d, N - min N d, min N d, (zs.drop (zs.length - d)).take (min N d), ⟨rfl, rfl, by omega, rfl, by omega, by omega, by rw [e1, e2, e3, e4], by rw [e2, e5]⟩, ?_, ?_, ?_, ?_, ?_⟩
          · rw [e1]; subst hA; show 0 ≤ (k' : Int) - d; omega
          · rw [e1, e2, e3]; subst hA; show (k' : Int) - d ≤ ((k' - d + min N d : Nat) : Int); omega
          · rw [e1, e2, e3]; subst hA; show ((k' - d + min N d : Nat) : Int) ≤ (k' : Int); omega
          · rw [e1, e2, e3, e4]; subst hA; show (k' + min N d) * 1 ≤ room; unfold room; omega
          · rw [e1, e2, e3, e4, e6]
            exact subA hA (by omega)
        have ha := apdA hA .u8 zs P
        refine ⟨hf1, hf2, hf3, bindO_some hsub (guardB_true (scA hA ..) ?_)⟩
        cbv
        refine ⟨?_, hf4, ?_⟩
        · obtain ⟨w1, -⟩ := hW
          subst hA
          show (R.ints .u8 zs).length = k' * 1
          rw [R_ints_length]; omega
        subst hA hag
        obtain ⟨w1, w2, w3, w4⟩ := hW
        obtain ⟨p1, p2, p3, p4, p5, p6, p7, p8⟩ := hP
        have hlen : P.length = c := by
          rw [p4]; simp
          have hdk : dist ≤ (k' : Int) := by
            rcases hV with hV | hV
            · omega
            · exact hV
          omega
        have hdk : dist ≤ (k' : Int) := by
          rcases hV with hV | hV
          · omega
          · exact hV
        have hadd : R.add k' (R.cnt (R.bin .add .i64 (R.bin .sub .i64 (R.nat k') dist) (R.mn n' dist)) (R.bin .sub .i64 (R.nat k') dist)) = k' + c := by rw [p7]; rfl
        refine ⟨r, ⟨[(0, .ptr 0 0), (1, .int .i64 dist), (2, .int .i64 (R.bin .sub .i64 n' (R.mn n' dist))), (6, .int .i64 0)], [.box 106 [.int .i64 wd, .int .i64 mo, .bool nn, .lst 2 (R.add k' (R.cnt (R.bin .add .i64 (R.bin .sub .i64 (R.nat k') dist) (R.mn n' dist)) (R.bin .sub .i64 (R.nat k') dist)))], .gone, .lst 5 1 (R.ints .u8 (zs ++ P))]⟩, by omega, ?_, zs ++ P, _, _, ⟨?_, ?_, ?_, ?_⟩, ?_, ?_, rfl⟩
        · exact Sub_of [0, 1, 3] (by simp [sigOk, ndG]) (by simp) ⟨fun _ => rfl, (by simp), ⟨⟨trivial, trivial, trivial, (show 2 < 3 by omega), trivial⟩, rfl⟩, fun _ => rfl, (by simp), trivial, fun h => absurd h (by simp), (by simp), subC_ints (congrArg (fun l => some (Ck.lst 5 1 l)) ha), trivial⟩
            ⟨.inr ⟨(show 0 < 3 by omega), rfl⟩, .inr ⟨trivial, rfl⟩, .inr ⟨trivial, rfl⟩, .inr ⟨trivial, rfl⟩, trivial⟩
        · rw [hadd, List.length_append, hlen]; omega
        · rw [p8]; omega
        · rw [p8, ← w3, show n'.toNat = c + r by omega, show dist.toNat = d by omega, p4, Int.toNat_natCast, ← cp_piece d (by omega) c r zs p5 (by omega)]
        · rw [p8, List.length_append, hlen]; push_cast; omega
        · rw [hadd]
          exact .inr (by push_cast; omega)
        · rw [p8, Int.toNat_natCast]
      · cbv
        refine fin _ _ _ rfl ?_
        obtain ⟨w1, w2, w3, w4⟩ := hW
        have h : ¬ 0 < n' := by subst hA; exact of_decide_eq_false h
        obtain rfl : n' = 0 := by omega
        exact ⟨w1, w2, w3, w4⟩
end Go.Sx
