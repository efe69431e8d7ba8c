/- Contracts of functions, and what is plain about them: texts put together. -/
import Derived.Test.YtpngibjkbomjnaaMCShrinkReadse
/- shrink: calls of Decode; lives. -/
set_option maxRecDepth 100000
set_option maxHeartbeats 4000000
set_option linter.unusedVariables false
set_option linter.unusedSimpArgs false
namespace Go.Sx
open Go.Proofs.Try

section
variable {A : Ar} {C : CallT} {s : St} {κ : List Nat → SV → List Ck → Prop} {m hb : Nat} {xs : List Int} {size : Int}
theorem call_sdec (hC : C = CallX prog) (hA : A = R) (hx : RX xs m) (hxl : xs.length ≤ 10000000) (h4 : cellsAt s.H hb 0 m = some (A.ints .u8 xs)) {av : List SV} (hav : argsOk 1 (linkOf s.H.length [(hb, 0, false)]) [.sl 0 0 m false, .int .i64 size] av)
    (hk : ∀ (o : List Int) (k : Nat) (n e : Int), decM xs size = (o, n, e) → k = o.length → o.length ≤ 100000000000 → κ [] (.tup [.lst (len1 s.H) k, .int .i64 n, .int .i64 e]) (apd s.H [.lst 5 1 (A.ints .u8 o)])) : C 10 av s κ := by
  have hS := s_sdec xs m size hx hxl
  rw [← hA] at hS
  refine cal_of hC hS [(hb, 0, false)] ⟨by simp, trivial⟩ ⟨hLtsA hA .., zOksA hA .., ?_, trivial⟩ hav ?_
  · rw [renA hA, A_ints_len hA, ← hx.2.1]; exact h4
  rintro _ _ ⟨o, k, n, e, h1, h2, h3, rfl, rfl⟩
  refine ⟨[], .tup [.lst (len1 s.H) k, .int .i64 n, .int .i64 e], s.H ++ [.lst 5 1 (A.ints .u8 o)], rfl, ?_, ?_, ?_⟩
  · rw [len1_eq]; rfl
  · simp only [backH, List.map_cons, List.map_nil, renCk, renA hA]
    rfl
  · have := hk o k n e h1 h2 h3
    rw [apd_eq] at this
    exact this
theorem call_rdec (hC : C = CallX prog) (hA : A = R) (hx : RX xs m) (hxl : xs.length ≤ 10000000) (hsz : size ≤ 9223372036854775807) (h4 : cellsAt s.H hb 0 m = some (A.ints .u8 xs)) {av : List SV} (hav : argsOk 1 (linkOf s.H.length [(hb, 0, false)]) [.sl 0 0 m false, .int .i64 size] av)
    (hk : ∀ (o : List Int) (k : Nat) (n e : Int), decM xs size = (o, n, e) → k = o.length → o.length ≤ 100000000000 → κ [] (.tup [.lst (len1 s.H) k, .int .i64 n, .int .i64 e]) (apd s.H [.lst 5 1 (A.ints .u8 o)])) : C 11 av s κ := by
  have hS := s_rdec xs m size hx hxl hsz
  rw [← hA] at hS
  refine cal_of hC hS [(hb, 0, false)] ⟨by simp, trivial⟩ ⟨hLtsA hA .., zOksA hA .., ?_, trivial⟩ hav ?_
  · rw [renA hA, A_ints_len hA, ← hx.2.1]; exact h4
  rintro _ _ ⟨o, k, n, e, h1, h2, h3, rfl, rfl⟩
  refine ⟨[], .tup [.lst (len1 s.H) k, .int .i64 n, .int .i64 e], s.H ++ [.lst 5 1 (A.ints .u8 o)], rfl, ?_, ?_, ?_⟩
  · rw [len1_eq]; rfl
  · simp only [backH, List.map_cons, List.map_nil, renCk, renA hA]
    rfl
  · have := hk o k n e h1 h2 h3
    rw [apd_eq] at this
    exact this
/-- Copy, of a window. -/
theorem call_rcpv (hC : C = CallX prog) (hA : A = R) (hm : m = xs.length) (hl : xs.length ≤ 1000000000000) (h4 : cellsAt s.H hb 0 m = some (A.ints .u8 xs))
    (hk : κ [] (.lst (len1 s.H) m) (apd s.H [.lst 5 1 (A.ints .u8 xs)])) : C 9 [.sl hb 0 m false] s κ := by
  have hS := s_rcp xs m hm hl
  rw [← hA] at hS
  refine cal_of hC hS [(hb, 0, false)] ⟨by simp, trivial⟩ ⟨hLtsA hA .., zOksA hA .., ?_, trivial⟩ ⟨⟨(show 0 < 1 by omega), rfl, rfl, rfl⟩, trivial⟩ ?_
  · rw [renA hA, A_ints_len hA, ← hm]; exact h4
  rintro _ _ ⟨rfl, rfl⟩
  refine ⟨[], .lst (len1 s.H) m, s.H ++ [.lst 5 1 (A.ints .u8 xs)], rfl, ?_, ?_, ?_⟩
  · rw [len1_eq]; rfl
  · simp only [backH, List.map_cons, List.map_nil, renCk, renA hA, setAll, List.length_cons, List.length_nil, List.drop_succ_cons, List.drop_zero]
  · rw [apd_eq] at hk
    exact hk
end
theorem vw_cells {A : Ar} (hA : A = R) {H : List Ck} {hb k : Nat} {bs xs : List Int} (h4 : H[hb]? = some (.vw (A.ints .u8 bs))) (hk : k ≤ bs.length) (hx : xs = bs.take k) : cellsAt H hb 0 k = some (A.ints .u8 xs) := by
  subst hA hx
  rw [cellsAt_eq h4 (by show 0 + k ≤ (R.ints .u8 bs).length; rw [R_ints_length]; omega)]
  show some ((List.drop 0 (ints .u8 bs)).take k) = some (ints .u8 (bs.take k))
  rw [List.drop_zero, ints_take]
theorem lst_cells {A : Ar} (hA : A = R) {H : List Ck} {hb k : Nat} {xs : List Int} (h4 : H[hb]? = some (.lst 5 1 (A.ints .u8 xs))) (hk : k = xs.length) : cellsAt H hb 0 k = some (A.ints .u8 xs) := zcells hA h4 rfl hk.symm

theorem txt_lo (ps es : List Int) {k : Nat} {c : Int} (h : 0 ≤ c ∧ c < 256) : txt ps es (k + 1) c = some [c] := by
  rw [txt, if_neg (by omega), if_pos h.2]
theorem lives_dec : decM [97, 0] 1 = ([97], 1, 0) := by
  have h1 : rdM [97, 0] s0M = (97, { s0M with p := 9, st := 1 }) := by
    unfold rdM
    rw [if_neg (by show ¬ ((0 : Int) ≠ 0); simp), if_neg (by show ¬ (8 * (2 : Int) < 0 + 9); omega)]
    rfl
  have h2 : stM [97, 0] 1 s0M = ({ s0M with p := 9, st := 1, os := [97], la := 97 }, 0) := by
    unfold stM
    rw [h1]
    simp only
    rw [if_neg (by show ¬ ((0 : Int) ≠ 0); simp), if_neg (by omega)]
    have h3 : txM { s0M with p := 9, st := 1 } 97 = some [97] := by
      unfold txM
      rw [txt_lo _ _ (by omega)]
    rw [h3]
    simp only
    rw [if_neg (by show ¬ ((1 : Int) - 0 < 1); omega)]
    unfold tlM
    rw [if_neg (by show ¬ (0 : Int) ≤ -1; omega)]
    rfl
  have h4 : deM [97, 0] 1 (8 * [(97 : Int), 0].length + 1) s0M = ({ s0M with p := 9, st := 1, os := [97], la := 97 }, 0) := by
    rw [deM_step (by show ((0 : Nat) : Int) < 1; omega) (by show 0 < 17; omega), h2, if_neg (by simp), deM_end (by show (1 : Int) ≤ ((1 : Nat) : Int); omega) (by show 0 < 16; omega)]
  unfold decM
  rw [if_neg (by omega), h4, if_neg (by simp), if_neg (by show ¬ 8 ≤ 8 * (2 : Int) - ((9 : Nat) : Int); omega)]
theorem s_slives : Spec prog 13 [] [] (fun r H => r = .bool true) := by
  refine Spec_of_kX (D := fun i => (0, [])) (ks := [0, 1, 2, 3]) tok mixed (fn := f13) rfl rfl rfl (by kernel_rfl) (N := 27) rfl (rs := [.tmp 0]) rfl (Nat.le_of_ble_eq_true rfl) fun A C Kp E ag L q hA hC hK hE hag hL hq => ?_
  cbv
  (try simp only [ncast] at *)
  have e3 : [SV.int .u8 97, SV.int .u8 0] = A.ints .u8 [97, 0] := by subst hA; rfl
  rw [e3]
  have hby : Byt [97, 0] := fun x hx => by
    rcases List.mem_cons.1 hx with rfl | hx
    · omega
    · rw [List.mem_singleton.1 hx]; omega
  refine call_sdec hC hA (hb := 0) (xs := [97, 0]) ⟨hby, rfl, by simp⟩ (by simp) (lst_cells hA rfl rfl) ⟨⟨(show 0 < 1 by omega), rfl, rfl, rfl, rfl⟩, ⟨trivial, trivial, rfl⟩, trivial⟩ fun o k n e hd hk hol => ?_
  rw [lives_dec] at hd
  obtain ⟨rfl, rfl, rfl⟩ : o = [97] ∧ n = 1 ∧ e = 0 := by
    have h1 := congrArg Prod.fst hd
    have h2 := congrArg (fun x => x.2.1) hd
    have h3 := congrArg (fun x => x.2.2) hd
    exact ⟨h1.symm, h2.symm, h3.symm⟩
  obtain rfl : k = 1 := hk
  clear hd e3
  cbv
  (try simp only [ncast] at *)
  refine ifT (by subst hA; rfl) fun h => ?_
  (try rw [h]); clear h
  cbv
  (try simp only [ncast] at *)
  refine ifT (by subst hA; rfl) fun h => ?_
  (try rw [h]); clear h
  cbv
  (try simp only [ncast] at *)
  refine ifT (by subst hA; rfl) fun h => ?_
  (try rw [h]); clear h
  cbv
  (try simp only [ncast] at *)
  refine rdA hA (by omega) (by decide) fun y hy => ?_
  obtain rfl : y = 97 := hy
  cbv
  (try simp only [ncast] at *)
  subst hA hq
  rfl
theorem call_slives {C : CallT} {s : St} {κ : List Nat → SV → List Ck → Prop} (hC : C = CallX prog) (hk : ∀ H', κ [] (.bool true) H') : C 13 [] s κ := by
  refine cal_of hC s_slives [] trivial trivial trivial ?_
  rintro _ H' rfl
  exact ⟨_, _, _, rfl, rfl, rfl, hk _⟩

theorem s_sreads (bs : List Int) (size : Int) (mb : Nat) (hm : mb = bs.length) (hbs : ∀ x ∈ bs, (Lit.int .u8 x).wf = true) (hsw : (Lit.int .i64 size).wf = true) :
    Spec prog 3 [.sl 0 0 mb false, .int .i64 size] [.vw (R.ints .u8 bs)] (fun r H => r = .bool true) := by
  have hsz := (wf_i64 hsw).2
  refine Spec_of_kX (D := fun i => (0, [])) (ks := [0, 1, 4, 5, 6, 7, 8, 9, 10, 11]) tok mixed (fn := f3) rfl rfl rfl (by kernel_rfl) (N := 51) rfl (rs := [.tmp 4]) rfl (Nat.le_of_ble_eq_true rfl) fun A C Kp E ag L q hA hC hK hE hag hL hq => ?_
  rw [← hA]
  cbv
  (try simp only [ncast] at *)
  refine call_cut hC hA (by decide) rfl hm fun k hk => ?_
  obtain ⟨xs, hxs⟩ : ∃ xs, xs = bs.take k := ⟨_, rfl⟩
  have hk4 : k ≤ 400 ∧ k ≤ bs.length := by
    have : (400 : Int).toNat = 400 := rfl
    omega
  have hxl : k = xs.length := by rw [hxs, List.length_take]; omega
  have hby : Byt xs := fun x hx => wf_u8 (hbs x (List.mem_of_mem_take (by rw [← hxs]; exact hx)))
  have hx : RX xs k := ⟨hby, hxl, by omega⟩
  clear hk
  cbv
  (try simp only [ncast] at *)
  refine call_rcpv hC hA hxl (by omega) (vw_cells hA rfl hk4.2 hxs) ?_
  cbv
  (try simp only [ncast] at *)
  refine call_sdec hC hA (hb := 1) hx (by omega) (lst_cells hA rfl hxl) ⟨⟨(show 0 < 1 by omega), rfl, rfl, rfl, rfl⟩, ⟨trivial, trivial, rfl⟩, trivial⟩ fun o k1 n e hd hk1 hol => ?_
  cbv
  (try simp only [ncast] at *)
  refine call_rdec hC hA (hb := 0) hx (by omega) hsz (vw_cells hA rfl hk4.2 hxs) ⟨⟨(show 0 < 1 by omega), rfl, rfl, rfl⟩, ⟨trivial, trivial, rfl⟩, trivial⟩ fun o2 k2 n2 e2 hd2 hk2 hol2 => ?_
  rw [hd] at hd2
  obtain ⟨rfl, rfl, rfl⟩ : o = o2 ∧ n = n2 ∧ e = e2 := by
    have h1 := congrArg Prod.fst hd2
    have h2 := congrArg (fun x => x.2.1) hd2
    have h3 := congrArg (fun x => x.2.2) hd2
    exact ⟨h1, h2, h3⟩
  clear hd hd2
  cbv
  (try simp only [ncast] at *)
  refine call_sameL hC hA hk1 hk2 (by omega) rfl rfl fun t ht => ?_
  obtain rfl : t = true := by rw [ht]; exact decide_eq_true rfl
  clear ht
  cbv
  (try simp only [ncast] at *)
  refine ifT (by simp only [eqlA hA]; simp) fun h => ?_
  (try rw [h]); clear h
  cbv
  (try simp only [ncast] at *)
  refine ifT (by simp only [eqlA hA]; simp) fun h => ?_
  (try rw [h]); clear h
  cbv
  (try simp only [ncast] at *)
  refine call_same hC hA [(1, 0, false), (0, 0, false)] 1 0 0 0 rfl (xs := xs) (ys := xs) hxl hxl (by omega) (lst_cells hA rfl hxl) (vw_cells hA rfl hk4.2 hxs) ⟨⟨(show 0 < 2 by omega), rfl, rfl, rfl, rfl⟩, ⟨(show 1 < 2 by omega), rfl, rfl, rfl⟩, trivial⟩ fun t ht => ?_
  obtain rfl : t = true := by rw [ht]; exact decide_eq_true rfl
  clear ht
  cbv
  (try simp only [ncast] at *)
  refine call_slives hC fun H' => ?_
  cbv
  (try simp only [ncast] at *)
  subst hA hq
  rfl
end Go.Sx
