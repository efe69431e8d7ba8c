/- The reader: Look, Read, and calls of them. -/
import Derived.Test.YtgedlkmfhahdpaaFh
import Derived.Test.YtgedlkmfhahdpaaSxK
set_option maxRecDepth 100000
set_option linter.unusedVariables false
set_option linter.unusedSimpArgs false
namespace Go.Sx
open Go.Proofs.Try

theorem cut_full {v : Int} {p b n : Nat} (h0 : 0 ≤ v) (hv : v < 2 ^ (p + b)) (hn : b ≤ n) : cut v p b % 2 ^ n = cut v p n := by
  unfold cut
  have hp := pow_pos2 p
  have hq : (2 : Int) ^ b ≤ 2 ^ n := by exact_mod_cast Nat.pow_le_pow_right (by decide) hn
  have h1 : v / 2 ^ p < 2 ^ b := by
    rw [Int.pow_add] at hv
    exact Int.ediv_lt_of_lt_mul hp (by rw [Int.mul_comm]; exact hv)
  have h2 : 0 ≤ v / 2 ^ p := Int.ediv_nonneg h0 (Int.le_of_lt hp)
  rw [Int.emod_eq_of_lt h2 h1]

/-- What Look answers. -/
def LookQ (xs : List Int) (p : Nat) (er n x hv : Int) : Prop :=
  ((er ≠ 0 ∨ n < 0 ∨ 32 < n) ∧ x = 0 ∧ hv = 0) ∨ (er = 0 ∧ 0 ≤ n ∧ n ≤ 32 ∧ x = cut (V xs) p n.toNat ∧ hv = min n (8 * xs.length - p))

theorem s_look (xs : List Int) (m p a b : Nat) (hx : RX xs m) (at_ hold nb er n : Int) (hF : RF xs p a b at_ hold nb) :
    Spec prog 46 [.ptr 0 0, .int .i64 n] [.box 86 [.lst 1 m, .int .i64 at_, .int .u64 hold, .int .i64 nb, .int .i64 er, .bool true], .lst 5 1 (R.ints .u8 xs)]
      (fun r H => ∃ (a b : Nat) (at_ hold nb x hv : Int), RF xs p a b at_ hold nb ∧ LookQ xs p er n x hv ∧ r = .tup [.int .u32 x, .int .i64 hv] ∧ H = [.box 86 [.lst 1 m, .int .i64 at_, .int .u64 hold, .int .i64 nb, .int .i64 er, .bool true], .lst 5 1 (R.ints .u8 xs)]) := by
  refine Spec_of_xX (D := fun i => if i = 4 then (16, []) else (0, [])) (ks := [0, 1, 4, 5]) tok mixed (fn := f46) rfl rfl rfl (by kernel_rfl) (N := 32) rfl (rs := [.tmp 4, .tmp 5]) rfl (Nat.le_of_ble_eq_true rfl) fun A C ag L q hA hC hag hL hq => ?_
  rw [← hA]
  cbv
  refine cal_vw hC (s_err m at_ hold nb er) [(0, 0, false), (1, 0, false)] rfl ?_ ⟨⟨(show 0 < 2 by omega), trivial, rfl⟩, trivial⟩ rfl ?_
  · exact ⟨⟨(show 1 < 2 by omega), trivial, trivial, trivial, trivial, trivial, trivial⟩, ⟨rfl, trivial, trivial, trivial, trivial, trivial, trivial⟩, rfl, trivial, trivial, rfl, trivial⟩
  cbv
  refine ifB_intro (fun h => ?_) (fun h => ?_)
  · have her := h
    simp only [natA hA, lssA hA, leqA hA, gtrA hA, geqA hA, eqlA hA, neqA hA, notA hA, beqA hA, decide_eq_true_eq, decide_eq_false_iff_not, beq_iff_eq, beq_eq_false_iff_ne, bne_iff_ne, bne_eq_false_iff_eq, Bool.not_eq_true', Bool.not_eq_false', ncast, Int.not_lt, Int.not_le, ne_eq] at her
    (try rw [h]); clear h
    cbv
    subst hA hq
    exact ⟨a, b, at_, hold, nb, 0, 0, hF, .inl ⟨.inl her, rfl, rfl⟩, rfl, rfl⟩
  have her := h
  simp only [natA hA, lssA hA, leqA hA, gtrA hA, geqA hA, eqlA hA, neqA hA, notA hA, beqA hA, decide_eq_true_eq, decide_eq_false_iff_not, beq_iff_eq, beq_eq_false_iff_ne, bne_iff_ne, bne_eq_false_iff_eq, Bool.not_eq_true', Bool.not_eq_false', ncast, Int.not_lt, Int.not_le, ne_eq] at her
  (try rw [h]); clear h
  cbv
  refine cal_bool hC (s_right n) ⟨⟨trivial, trivial, rfl⟩, trivial⟩ fun y hy => ?_
  cbv
  refine ifB_intro (fun h => ?_) (fun h => ?_)
  · have hy2 := h
    simp only [natA hA, lssA hA, leqA hA, gtrA hA, geqA hA, eqlA hA, neqA hA, notA hA, beqA hA, decide_eq_true_eq, decide_eq_false_iff_not, beq_iff_eq, beq_eq_false_iff_ne, bne_iff_ne, bne_eq_false_iff_eq, Bool.not_eq_true', Bool.not_eq_false', ncast, Int.not_lt, Int.not_le, ne_eq] at hy2
    (try rw [h]); clear h
    cbv
    subst hA hq
    rw [hy] at hy2
    refine ⟨a, b, at_, hold, nb, 0, 0, hF, .inl ⟨.inr ?_, rfl, rfl⟩, rfl, rfl⟩
    simp at hy2
    omega
  have hn : 0 ≤ n ∧ n ≤ 32 := by
    subst hA
    have h : (!y) = false := h
    rw [hy] at h
    simpa using h
  clear hy h
  cbv
  have hS := s_fill xs m p a b hx at_ hold nb er n hn.2 hF
  rw [← hA] at hS
  refine cal_of hC hS [(0, 0, true), (1, 0, true)] ⟨by simp, by simp, trivial⟩ (matchH2 hA ⟨(show 1 < 2 by omega), trivial, trivial, trivial, trivial, trivial, trivial⟩ ⟨rfl, trivial, trivial, trivial, trivial, trivial, trivial⟩ rfl rfl rfl) ⟨⟨(show 0 < 2 by omega), trivial, rfl⟩, ⟨trivial, trivial, rfl⟩, trivial⟩ ?_
  rintro _ _ ⟨rfl, a, b, at_, hold, nb, hF, hfull, rfl⟩
  refine ⟨_, _, _, rfl, rfl, backH2 hA rfl, ?_⟩
  cbv
  refine ⟨by simp only [ge0A hA]; exact hn.1, ?_⟩
  subst hA hq
  refine ⟨a, b, at_, hold, nb, _, _, hF, .inr ⟨her, hn.1, hn.2, ?_, ?_⟩, rfl, rfl⟩
  all_goals
    obtain ⟨h1, h2, h3, h4, h5, h6⟩ := hF
    obtain ⟨hb, hm, hl⟩ := hx
    obtain ⟨k, rfl⟩ : ∃ k : Nat, n = k := ⟨n.toNat, by omega⟩
  · have hv := V_bnd hb
    have hc0 := cut_nonneg (V_bnd hb).1 p b
    have hc1 := cut_lt (V xs) p b
    have hq : (2 : Int) ^ b ≤ 2 ^ 39 := by exact_mod_cast Nat.pow_le_pow_right (by decide) h5
    have hq39 : (2 : Int) ^ 39 = 549755813888 := by decide
    have hqk : (2 : Int) ^ k ≤ 2 ^ 32 := by exact_mod_cast Nat.pow_le_pow_right (by decide) (by omega)
    have hq32 : (2 : Int) ^ 32 = 4294967296 := by decide
    show IntKind.u32.wrap (band .u64 hold (IntKind.u64.wrap (shlI .u64 1 k - 1))) = _
    have e : cut (V xs) p b % 2 ^ k = cut (V xs) p k := by
      rcases Nat.lt_or_ge b k with hbk | hbk
      · refine cut_full hv.1 ?_ (Nat.le_of_lt hbk)
        have hfull : (k : Int) ≤ nb ∨ a = xs.length := hfull
        have : p + b = 8 * xs.length := by omega
        rw [this]; exact hv.2
      · exact cut_cut _ _ _ _ hbk
    rw [mask64 (by omega) (by omega) (by omega), h6, e]
    have := cut_nonneg (V_bnd hb).1 p k
    have := cut_lt (V xs) p k
    rw [wrapu32 (by omega), Int.toNat_natCast]
  · show (if nb < (k : Int) then nb else (k : Int)) = min (k : Int) (8 * (xs.length : Int) - (p : Int))
    have hfull : (k : Int) ≤ nb ∨ a = xs.length := hfull
    split <;> omega

theorem s_read (xs : List Int) (m p a b : Nat) (hx : RX xs m) (at_ hold nb er : Int) (mk : Bool) (hF : RF xs p a b at_ hold nb) :
    Spec prog 47 [.ptr 0 0] [.vw [.lst 1 m, .int .i64 at_, .int .u64 hold, .int .i64 nb, .int .i64 er, .bool mk], .vw []]
      (fun r H => r = .int .i64 p ∧ H = [.vw [.lst 1 m, .int .i64 at_, .int .u64 hold, .int .i64 nb, .int .i64 er, .bool mk], .vw []]) := by
  refine Spec_of_xX (D := fun i => if i = 3 then (9, []) else (0, [])) (ks := [0, 2]) tok mixed (fn := f47) rfl rfl rfl (by kernel_rfl) (N := 15) rfl (rs := [.tmp 2]) rfl (Nat.le_of_ble_eq_true rfl) fun A C ag L q hA hC hag hL hq => ?_
  cbv
  subst hA hq
  obtain ⟨h1, h2, h3, h4, h5, h6⟩ := hF
  obtain ⟨hb, hm, hl⟩ := hx
  refine ⟨?_, rfl⟩
  show SV.int .i64 (IntKind.i64.wrap (IntKind.i64.wrap (8 * at_) - nb)) = _
  rw [wrap64 (n := 8 * at_) (by omega), wrap64 (by omega)]
  congr 1
  simp only [ncast]
  omega

section
variable {A : Ar} {C : CallT} {xs : List Int} {m p a b : Nat} {at_ hold nb er : Int} {hb hr : Nat} {s : St} {κ : List Nat → SV → List Ck → Prop}

theorem call_read (hC : C = CallX prog) (hx : RX xs m) (hF : RF xs p a b at_ hold nb) (h4 : s.H[hb]? = some (.box 86 [.lst hr m, .int .i64 at_, .int .u64 hold, .int .i64 nb, .int .i64 er, .bool true])) (hr' : hr < s.H.length) (hk : ∀ y : Int, y = p → κ [] (.int .i64 y) s.H) : C 47 [.ptr hb 0] s κ :=
  cal_vw hC (s_read xs m p a b hx at_ hold nb er true hF) [(hb, 0, false), (hr, 0, false)] rfl (rdV (g := fun h => (h, 0)) h4 hr') ⟨⟨(show 0 < 2 by omega), trivial, rfl⟩, trivial⟩ rfl (hk _ rfl)

theorem call_look (hC : C = CallX prog) (hA : A = R) {n : Int} (hx : RX xs m) (hF : RF xs p a b at_ hold nb) (hne : hb ≠ hr) (h4 : s.H[hb]? = some (.box 86 [.lst hr m, .int .i64 at_, .int .u64 hold, .int .i64 nb, .int .i64 er, .bool true])) (h5 : s.H[hr]? = some (.lst 5 1 (A.ints .u8 xs)))
    (hk : ∀ (a b : Nat) (at_ hold nb x hv : Int), RF xs p a b at_ hold nb → LookQ xs p er n x hv →
      κ [hb, hr] (.tup [.int .u32 x, .int .i64 hv]) (set1 (set1 s.H hb (.box 86 [.lst hr m, .int .i64 at_, .int .u64 hold, .int .i64 nb, .int .i64 er, .bool true])) hr (.lst 5 1 (A.ints .u8 xs)))) : C 46 [.ptr hb 0, .int .i64 n] s κ := by
  have hS := s_look xs m p a b hx at_ hold nb er n hF
  rw [← hA] at hS
  refine cal_of hC hS [(hb, 0, true), (hr, 0, true)] ⟨by simp [hne], by simp, trivial⟩ (matchH2 hA ⟨(show 1 < 2 by omega), trivial, trivial, trivial, trivial, trivial, trivial⟩ ⟨rfl, trivial, trivial, trivial, trivial, trivial, trivial⟩ rfl h4 h5) ⟨⟨(show 0 < 2 by omega), trivial, rfl⟩, ⟨trivial, trivial, rfl⟩, trivial⟩ ?_
  rintro _ _ ⟨a, b, at_, hold, nb, x, hv, hF', hQ, rfl, rfl⟩
  refine ⟨_, _, _, rfl, rfl, backH2 hA rfl, ?_⟩
  have := hk a b at_ hold nb x hv hF' hQ
  rw [set1_eq, set1_eq] at this
  exact this
end
end Go.Sx
