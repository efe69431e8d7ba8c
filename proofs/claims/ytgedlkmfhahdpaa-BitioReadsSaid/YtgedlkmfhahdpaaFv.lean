/- The law of room: its walk. -/
import Derived.Test.YtgedlkmfhahdpaaFn
import Derived.Test.YtgedlkmfhahdpaaSxR
set_option maxRecDepth 100000
set_option linter.unusedVariables false
set_option linter.unusedSimpArgs false
namespace Go.Sx
open Go.Proofs.Try

/-- The rows of calls, as cells. -/
def DoK : List FK := [.num .u8, .num .i64, .num .i64]

/-- What one call does to the bytes told so far. -/
def RoomQ (mo : Int) (ys : List Int) (k : Nat) : Prop := k = ys.length ∧ (ys.length : Int) ≤ mo ∧ 0 ≤ mo ∧ mo ≤ 300
def StepQ (mo c d n : Int) (ys zs : List Int) (e : Int) : Prop :=
  (ys.length : Int) ≤ zs.length ∧ (zs.length : Int) ≤ mo ∧ zs.take ys.length = ys ∧ (e ≠ 0 → zs.length = ys.length) ∧ (e = 0 → d = 0 → zs.length = ys.length + 1) ∧ (e = 0 → d ≠ 0 → (zs.length : Int) - ys.length = n)

theorem step_lit {mo c d n : Int} {ys zs : List Int} {e : Int} (hm : (ys.length : Int) ≤ mo) (hd : d = 0) (h : LitQ mo c ys e zs) : StepQ mo c d n ys zs e := by
  rcases h with ⟨h1, h2, h3⟩ | ⟨h1, h2, h3⟩
  · subst h3
    exact ⟨by omega, by omega, List.take_length, fun _ => rfl, fun h => by omega, fun h => by omega⟩
  · subst h3
    have hl : (ys ++ [c]).length = ys.length + 1 := by simp
    exact ⟨by omega, by omega, by simp, fun h => by omega, fun _ _ => hl, fun _ h => absurd hd h⟩

theorem step_copy {wd mo c d n : Int} {nn : Bool} {ys zs : List Int} {e : Int} (hm : (ys.length : Int) ≤ mo) (hd : d ≠ 0) (h : CpQ wd mo nn ys d n e zs) : StepQ mo c d n ys zs e := by
  rcases h with ⟨h1, h2, h3⟩ | ⟨h1, h2, h3, h4, h5⟩ | ⟨h1, h2, h3, h4, h5, h6, h7⟩ | ⟨h1, h2, h3, h4, h5, h6, h7⟩
  · subst h3
    exact ⟨by omega, by omega, List.take_length, fun _ => rfl, fun h => by omega, fun h => by omega⟩
  · subst h5
    exact ⟨by omega, by omega, List.take_length, fun _ => rfl, fun h => by omega, fun h => by omega⟩
  · subst h7
    exact ⟨by omega, by omega, List.take_length, fun _ => rfl, fun h => by omega, fun h => by omega⟩
  · subst h7
    have hl : (cp ys d.toNat n.toNat).length = ys.length + n.toNat := cp_len _ _ _
    exact ⟨by omega, by omega, cp_take _ _ _, fun h => absurd h6 h, fun _ h => absurd h hd, fun _ _ => by omega⟩

theorem s_room (wd0 mo0 : Int) (nn : Bool) (cs : List SV) (g : Nat → Nat → Int) (ln : Nat) (hcs : Tbl DoK g ln cs) : Spec prog 7 [.int .i64 wd0, .int .i64 mo0, .bool nn, .sl 0 0 ln false] [.vw cs] (fun r H => r = .bool true) := by
  refine Spec_of_xX (D := fun i => if i = 11 then (11, []) else (0, [])) (ks := [0, 1, 2, 3, 8, 9, 10, 11, 12, 13]) tok mixed (fn := f7) rfl rfl rfl (by kernel_rfl) (N := 137) rfl (rs := [.tmp 8]) rfl (by show 4 ≤ 137; omega) fun A C ag L q hA hC hag hL hq => ?_
  have hl := s_lives7
  have hcl : ∀ n, hLts n cs := fun n => hcs.hLts n
  have hcr : ∀ σ, cs.map (renC (sg σ)) = cs := fun σ => hcs.ren _
  cbv
  refine cal_int hC (s_within wd0 1 300) ⟨⟨trivial, trivial, rfl⟩, ⟨trivial, trivial, rfl⟩, ⟨trivial, trivial, rfl⟩, trivial⟩ fun wd hwd => ?_
  cbv
  refine cal_int hC (s_within mo0 0 300) ⟨⟨trivial, trivial, rfl⟩, ⟨trivial, trivial, rfl⟩, ⟨trivial, trivial, rfl⟩, trivial⟩ fun mo hmo => ?_
  have hw : 1 ≤ wd ∧ wd ≤ 300 := by unfold within at hwd; split at hwd <;> (try split at hwd) <;> omega
  have hm : 0 ≤ mo ∧ mo ≤ 300 := by unfold within at hmo; split at hmo <;> (try split at hmo) <;> omega
  clear hwd hmo
  cbv
  refine call_new hC hA ⟨hw.1, by omega⟩ hm.1 ?_
  cbv
  refine ifB_intro (fun h => ?_) (fun h => ?_)
  · subst hA; exact absurd h (by decide)
  clear h
  cbv
  rw [hL]
  refine loop_keep (fun kk s => ∃ (i : Int) (ys : List Int) (k : Nat), RoomQ mo ys k ∧ 0 ≤ i ∧ kk = (60 - i).toNat ∧ s = ⟨[(0, .int .i64 wd), (1, .int .i64 mo), (3, .sl 0 0 ln false), (8, .bool false), (9, .ptr 1 0), (11, .int .i64 i)],
    [.vw cs, .box 61 [.int .i64 wd, .int .i64 mo, .bool nn, .lst 2 k], .lst 5 1 (A.ints .u8 ys)]⟩) [0, 1, 3, 8, 9, 11] _ ⟨0, [], 0, ⟨rfl, hm.1, hm.1, hm.2⟩, by decide, rfl, rfl⟩ ?_
  rintro kk _ ⟨i, ys, k, hR, hi, hkk, rfl⟩
  cbv
  refine ifB_intro (fun h => ?_) (fun h => ?_)
  rw [h]
  cbv
  refine ifB_intro (fun h' => ?_) (fun h' => ?_)
  · rw [h']
    cbv
    have hin : A.inr i ln ∧ i.toNat < ln ∧ i < 60 := by
      subst hA
      have h : i < (ln : Int) := of_decide_eq_true h
      exact ⟨⟨hi, h⟩, by omega, of_decide_eq_true h'⟩
    refine call_bytes hC hA hR.1 (by
      obtain ⟨_, r2, r3, r4⟩ := hR
      omega) (by omega) rfl rfl ?_
    obtain ⟨c, hc⟩ : ∃ c, nth cs (A.ix 0 i 3 + 0) = some (.int .u8 c) := ⟨_, hcs.nth hA rfl hin.2.1 rfl⟩
    obtain ⟨d, hd⟩ : ∃ d, nth cs (A.ix 0 i 3 + 1) = some (.int .i64 d) := ⟨_, hcs.nth hA rfl hin.2.1 rfl⟩
    obtain ⟨n, hn⟩ : ∃ n, nth cs (A.ix 0 i 3 + 2) = some (.int .i64 n) := ⟨_, hcs.nth hA rfl hin.2.1 rfl⟩
    clear hcs
    cbv
    refine ⟨hin.1, bindO_some hd ?_⟩
    cbv
    refine ifB_intro (fun h2 => ?_) (fun h2 => ?_)
    have hd0 : d = 0 := by subst hA; have h2 : (d == 0) = true := h2; simpa using h2
    clear h2
    cbv
    refine ⟨hin.1, bindO_some hc ?_⟩
    cbv
    refine call_lit hC hA hR.1 (by
      obtain ⟨_, r2, r3, r4⟩ := hR
      omega) (by omega) (by decide) rfl rfl fun e k2 zs hQ hk2 => ?_
    have hS := step_lit (n := n) hR.2.1 hd0 hQ
    clear hQ hd0
    rotate_left
    have hd0 : d ≠ 0 := by subst hA; have h2 : (d == 0) = false := h2; simpa using h2
    clear h2
    cbv
    refine ⟨hin.1, bindO_some hd ?_⟩
    cbv
    refine ⟨hin.1, bindO_some hn ?_⟩
    cbv
    refine call_copy hC hA hR.1 (by
      obtain ⟨_, r2, r3, r4⟩ := hR
      exact ⟨r3, by omega, by omega, fun _ => by omega⟩) (by omega) (by decide) rfl rfl fun e k2 zs hQ hk2 => ?_
    have hS := step_copy (c := c) hR.2.1 hd0 hQ
    clear hQ hd0
    all_goals
      have hzl : zs.length ≤ 1000000000000 := by
        have h1 : (ys.length : Int) ≤ zs.length := hS.1
        have h2 : (zs.length : Int) ≤ mo := hS.2.1
        omega
      cbv
      refine call_bytes hC hA hk2 hzl (by omega) rfl rfl ?_
      cbv
      refine ifB_intro (fun h2 => ?_) (fun h2 => ?_)
      · exfalso
        subst hA
        have h2 : mo < (k2 : Int) := of_decide_eq_true h2
        have h3 : (zs.length : Int) ≤ mo := hS.2.1
        omega
      rw [h2]
      clear h2
      cbv
      refine ifB_intro (fun h2 => ?_) (fun h2 => ?_)
      · exfalso
        subst hA
        have h2 : (k2 : Int) < (k : Int) := of_decide_eq_true h2
        have h3 : (ys.length : Int) ≤ zs.length := hS.1
        have h4 : k = ys.length := hR.1
        omega
      rw [h2]
      clear h2
      cbv
      have hkk4 : k = ys.length := hR.1
      have hle : k ≤ zs.length := by
        have h3 : (ys.length : Int) ≤ zs.length := hS.1
        omega
      have htk : zs.take k = ys := by rw [hkk4]; exact hS.2.2.1
      have hc0 : A.cnt (A.nat k) (A.nat 0) = ys.length := by subst hA; show ((k : Int) - ((0 : Nat) : Int)).toNat = _; omega
      have hc1 : ∀ H : List Ck, H[7]? = some (.lst 5 1 (A.ints .u8 zs)) → cellsAt H 7 (A.ix 0 (A.nat 0) 1) (A.cnt (A.nat k) (A.nat 0)) = some (A.ints .u8 ys) := by
        intro H hH
        have e2 : A.ix 0 (A.nat 0) 1 = 0 := by subst hA; rfl
        rw [hc0, ← hkk4, e2]
        subst hA
        rw [cellsAt_eq hH (by show 0 + k ≤ (R.ints .u8 zs).length; rw [R_ints_length]; omega)]
        show some (((ints .u8 zs).drop 0).take k) = some (ints .u8 ys)
        rw [List.drop_zero, ints_take, htk]
      have hc2 : ∀ H : List Ck, H[4]? = some (.lst 5 1 (A.ints .u8 ys)) → cellsAt H 4 0 k = some (A.ints .u8 ys) := by
        intro H hH
        subst hA
        rw [cellsAt_eq hH (by show 0 + k ≤ (R.ints .u8 ys).length; rw [R_ints_length]; omega)]
        show some (((ints .u8 ys).drop 0).take k) = some (ints .u8 ys)
        rw [List.drop_zero, ints_take, hkk4, List.take_length]
      refine ⟨by subst hA; exact (by decide : (0 : Int) ≤ ((0 : Nat) : Int)), by subst hA; show ((0 : Nat) : Int) ≤ (k : Int); omega, by subst hA; show (k : Int) ≤ (k2 : Int); omega, ?_⟩
      refine call_same hC hA _ 7 (A.ix 0 (A.nat 0) 1) 4 0 rfl hc0 hkk4 (by omega) (hc1 _ rfl) (hc2 _ rfl) ⟨⟨(show 0 < 2 by omega), rfl, rfl, rfl⟩, ⟨(show 1 < 2 by omega), rfl, rfl, rfl, rfl⟩, trivial⟩ fun t ht => ?_
      have ht : t = true := by rw [ht]; simp
      subst ht
      clear hc0 hc1 hc2 htk hle
      cbv
      refine ifB_intro (fun h2 => ?_) (fun h2 => ?_)
      · subst hA; exact absurd h2 (by decide)
      rw [h2]
      clear h2
      cbv
      refine ifB_intro (fun h2 => ?_) (fun h2 => ?_)
      · have he : e ≠ 0 := by subst hA; have h2 : (e != 0) = true := h2; simpa using h2
        rw [h2]
        clear h2
        cbv
        refine ifB_intro (fun h2 => ?_) (fun h2 => ?_)
        · exfalso
          have h4 : zs.length = ys.length := hS.2.2.2.1 he
          have h5 : k = k2 := by have h6 : k = ys.length := hR.1; omega
          subst hA
          have h2 : ((k2 : Int) != (k : Int)) = true := h2
          rw [h5] at h2
          simp at h2
        try rw [h2]
        clear h2
        cbv
        refine ifB_intro (fun h2 => ?_) (fun h2 => ?_)
        · exfalso
          subst hA
          have h2 : (e == 0) = true := h2
          exact he (by simpa using h2)
        · rw [h2]
          clear h2
          cbv
          subst hA hag
          obtain ⟨r1, r2, r3, r4⟩ := hR
          have h3 : (zs.length : Int) ≤ mo := hS.2.1
          have ei : IntKind.i64.wrap (i + 1) = i + 1 := wrap64 (by omega)
          refine ⟨(60 - (i + 1)).toNat, ⟨[(0, .int .i64 wd), (1, .int .i64 mo), (3, .sl 0 0 ln false), (8, .bool false), (9, .ptr 1 0), (11, .int .i64 (IntKind.i64.wrap (i + 1)))],
            [.vw cs, .box 61 [.int .i64 wd, .int .i64 mo, .bool nn, .lst 2 k2], .lst 5 1 (R.ints .u8 zs)]⟩, by omega, ?_, IntKind.i64.wrap (i + 1), zs, k2, ⟨hk2, h3, r3, r4⟩, by omega, by rw [ei], rfl⟩
          exact Sub_of [0, 1, 5] (by simp [sigOk, ndG]) (by simp) ⟨fun _ => rfl, (by simp), ⟨rfl, hcl _, rfl, hcr _⟩, fun h => absurd h (by simp), (by simp), ⟨⟨trivial, trivial, trivial, (show 2 < 3 by omega), trivial⟩, rfl⟩, fun h => absurd h (by simp), (by simp), subC_ints rfl, trivial⟩
            ⟨.inr ⟨trivial, rfl⟩, .inr ⟨trivial, rfl⟩, .inr ⟨(show 0 < 3 by omega), rfl⟩, .inr ⟨trivial, rfl⟩, .inr ⟨(show 1 < 3 by omega), rfl⟩, .inr ⟨trivial, rfl⟩, trivial⟩
      · have he : e = 0 := by subst hA; have h2 : (e != 0) = false := h2; simpa using h2
        rw [h2]
        clear h2
        cbv
        refine ifB_intro (fun h2 => ?_) (fun h2 => ?_)
        rotate_left
        · exfalso
          subst hA
          have h2 : (e == 0) = false := h2
          rw [he] at h2
          exact absurd h2 (by decide)
        rw [h2]
        clear h2
        cbv
        refine ⟨hin.1, bindO_some hd ?_⟩
        cbv
        refine ifB_intro (fun h2 => ?_) (fun h2 => ?_)
        · have hd0 : d = 0 := by subst hA; have h2 : (d == 0) = true := h2; simpa using h2
          rw [h2]
          clear h2
          cbv
          refine ifB_intro (fun h2 => ?_) (fun h2 => ?_)
          · exfalso
            subst hA
            have h4 : zs.length = ys.length + 1 := hS.2.2.2.2.1 he hd0
            have h6 : k = ys.length := hR.1
            have h7 : (zs.length : Int) ≤ mo := hS.2.1
            have h2 : ((k2 : Int) != IntKind.i64.wrap ((k : Int) + 1)) = true := h2
            rw [wrap64 (by omega)] at h2
            have h5 : (k2 : Int) = (k : Int) + 1 := by omega
            rw [h5] at h2
            simp at h2
          rw [h2]
          clear h2
          cbv
          refine ⟨hin.1, bindO_some hd ?_⟩
          cbv
          refine ifB_intro (fun h2 => ?_) (fun h2 => ?_)
          · exfalso
            subst hA
            have h2 : (d != 0) = true := h2
            rw [hd0] at h2
            exact absurd h2 (by decide)
          rw [h2]
          clear h2
          cbv
          subst hA hag
          obtain ⟨r1, r2, r3, r4⟩ := hR
          have h3 : (zs.length : Int) ≤ mo := hS.2.1
          have ei : IntKind.i64.wrap (i + 1) = i + 1 := wrap64 (by omega)
          refine ⟨(60 - (i + 1)).toNat, ⟨[(0, .int .i64 wd), (1, .int .i64 mo), (3, .sl 0 0 ln false), (8, .bool false), (9, .ptr 1 0), (11, .int .i64 (IntKind.i64.wrap (i + 1)))],
            [.vw cs, .box 61 [.int .i64 wd, .int .i64 mo, .bool nn, .lst 2 k2], .lst 5 1 (R.ints .u8 zs)]⟩, by omega, ?_, IntKind.i64.wrap (i + 1), zs, k2, ⟨hk2, h3, r3, r4⟩, by omega, by rw [ei], rfl⟩
          exact Sub_of [0, 1, 5] (by simp [sigOk, ndG]) (by simp) ⟨fun _ => rfl, (by simp), ⟨rfl, hcl _, rfl, hcr _⟩, fun h => absurd h (by simp), (by simp), ⟨⟨trivial, trivial, trivial, (show 2 < 3 by omega), trivial⟩, rfl⟩, fun h => absurd h (by simp), (by simp), subC_ints rfl, trivial⟩
            ⟨.inr ⟨trivial, rfl⟩, .inr ⟨trivial, rfl⟩, .inr ⟨(show 0 < 3 by omega), rfl⟩, .inr ⟨trivial, rfl⟩, .inr ⟨(show 1 < 3 by omega), rfl⟩, .inr ⟨trivial, rfl⟩, trivial⟩
        · have hd0 : d ≠ 0 := by subst hA; have h2 : (d == 0) = false := h2; simpa using h2
          rw [h2]
          clear h2
          cbv
          refine ⟨hin.1, bindO_some hd ?_⟩
          cbv
          refine ifB_intro (fun h2 => ?_) (fun h2 => ?_)
          rotate_left
          · exfalso
            subst hA
            have h2 : (d != 0) = false := h2
            exact hd0 (by simpa using h2)
          rw [h2]
          clear h2
          cbv
          refine ⟨hin.1, bindO_some hn ?_⟩
          cbv
          refine ifB_intro (fun h2 => ?_) (fun h2 => ?_)
          · exfalso
            subst hA
            have h4 : (zs.length : Int) - ys.length = n := hS.2.2.2.2.2 he hd0
            have h6 : k = ys.length := hR.1
            have h7 : (zs.length : Int) ≤ mo := hS.2.1
            have h2 : (IntKind.i64.wrap ((k2 : Int) - (k : Int)) != n) = true := h2
            have h8 : (k2 : Int) = (zs.length : Int) := congrArg Int.ofNat hk2
            have h9 : (k : Int) = (ys.length : Int) := congrArg Int.ofNat h6
            have hr2 : (ys.length : Int) ≤ mo := hR.2.1
            rw [wrap64 (n := (k2 : Int) - (k : Int)) (by omega)] at h2
            have h5 : (k2 : Int) - (k : Int) = n := by omega
            rw [h5] at h2
            simp at h2
          try rw [h2]
          clear h2
          cbv
          subst hA hag
          obtain ⟨r1, r2, r3, r4⟩ := hR
          have h3 : (zs.length : Int) ≤ mo := hS.2.1
          have ei : IntKind.i64.wrap (i + 1) = i + 1 := wrap64 (by omega)
          refine ⟨(60 - (i + 1)).toNat, ⟨[(0, .int .i64 wd), (1, .int .i64 mo), (3, .sl 0 0 ln false), (8, .bool false), (9, .ptr 1 0), (11, .int .i64 (IntKind.i64.wrap (i + 1)))],
            [.vw cs, .box 61 [.int .i64 wd, .int .i64 mo, .bool nn, .lst 2 k2], .lst 5 1 (R.ints .u8 zs)]⟩, by omega, ?_, IntKind.i64.wrap (i + 1), zs, k2, ⟨hk2, h3, r3, r4⟩, by omega, by rw [ei], rfl⟩
          exact Sub_of [0, 1, 5] (by simp [sigOk, ndG]) (by simp) ⟨fun _ => rfl, (by simp), ⟨rfl, hcl _, rfl, hcr _⟩, fun h => absurd h (by simp), (by simp), ⟨⟨trivial, trivial, trivial, (show 2 < 3 by omega), trivial⟩, rfl⟩, fun h => absurd h (by simp), (by simp), subC_ints rfl, trivial⟩
            ⟨.inr ⟨trivial, rfl⟩, .inr ⟨trivial, rfl⟩, .inr ⟨(show 0 < 3 by omega), rfl⟩, .inr ⟨trivial, rfl⟩, .inr ⟨(show 1 < 3 by omega), rfl⟩, .inr ⟨trivial, rfl⟩, trivial⟩
  all_goals first | rw [h'] | rw [h]
  all_goals
    cbv
    refine cal_of hC hl [] trivial trivial trivial ?_
    rintro _ H' rfl
    refine ⟨_, _, _, rfl, rfl, rfl, ?_⟩
    cbv
    subst hA hq
    rfl
end Go.Sx
