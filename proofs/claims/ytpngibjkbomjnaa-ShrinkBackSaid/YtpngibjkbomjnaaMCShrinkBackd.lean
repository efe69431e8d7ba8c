/- Contracts of functions, and what is plain about them: texts put together. -/
import Derived.Test.YtpngibjkbomjnaaMSc
import Derived.Laws.BitsLemmas
/- Bytes as one number, the lowest first. -/
set_option linter.unusedVariables false
namespace Go.Sx

/-- A row of bytes. -/
def Byt (xs : List Int) : Prop := ∀ x ∈ xs, 0 ≤ x ∧ x < 256

def V : List Int → Int
  | [] => 0
  | x :: r => x + 256 * V r

theorem pow_pos2 (n : Nat) : (0 : Int) < 2 ^ n := Int.pow_pos (by decide)

theorem V_app : ∀ (xs ys : List Int), V (xs ++ ys) = V xs + 2 ^ (8 * xs.length) * V ys
  | [], ys => by simp [V]
  | x :: r, ys => by
    have : (2 : Int) ^ (8 * (r.length + 1)) = 256 * 2 ^ (8 * r.length) := by
      rw [show 8 * (r.length + 1) = 8 + 8 * r.length by omega, Int.pow_add]; rfl
    simp only [List.cons_append, V, List.length_cons, this, V_app r ys]
    rw [Int.mul_add, Int.mul_assoc]; omega

theorem V_bnd : ∀ {xs : List Int}, Byt xs → 0 ≤ V xs ∧ V xs < 2 ^ (8 * xs.length)
  | [], _ => by simp [V]
  | x :: r, h => by
    obtain ⟨h1, h2⟩ := V_bnd (xs := r) fun y hy => h y (List.mem_cons_of_mem _ hy)
    obtain ⟨h3, h4⟩ := h x (List.mem_cons_self ..)
    have : (2 : Int) ^ (8 * (r.length + 1)) = 256 * 2 ^ (8 * r.length) := by
      rw [show 8 * (r.length + 1) = 8 + 8 * r.length by omega, Int.pow_add]; rfl
    simp only [V, List.length_cons, this]
    omega

theorem Byt.take {xs : List Int} (h : Byt xs) (n : Nat) : Byt (xs.take n) := fun x hx => h x (List.mem_of_mem_take hx)
theorem Byt.drop {xs : List Int} (h : Byt xs) (n : Nat) : Byt (xs.drop n) := fun x hx => h x (List.mem_of_mem_drop hx)
theorem Byt.get {xs : List Int} (h : Byt xs) {i : Nat} (hi : i < xs.length) : 0 ≤ xs.getD i 0 ∧ xs.getD i 0 < 256 := by
  have : xs.getD i 0 = xs[i] := by simp [List.getD, hi]
  rw [this]; exact h _ (List.getElem_mem hi)

theorem V_take_succ {xs : List Int} {i : Nat} (hi : i < xs.length) : V (xs.take (i + 1)) = V (xs.take i) + 2 ^ (8 * i) * xs.getD i 0 := by
  have e : xs.take (i + 1) = xs.take i ++ [xs.getD i 0] := by
    rw [List.take_add_one]; simp [List.getD, hi]
  rw [e, V_app]
  simp only [V, List.length_take, Nat.min_eq_left (Nat.le_of_lt hi), Int.mul_zero, Int.add_zero]

theorem V_take {xs : List Int} (h : Byt xs) {i : Nat} (hi : i ≤ xs.length) : V xs % 2 ^ (8 * i) = V (xs.take i) := by
  have e : V xs = V (xs.take i) + 2 ^ (8 * i) * V (xs.drop i) := by
    conv => lhs; rw [← List.take_append_drop i xs]
    rw [V_app, List.length_take, Nat.min_eq_left hi]
  have hb := V_bnd (h.take i)
  rw [List.length_take, Nat.min_eq_left hi] at hb
  rw [e, Int.add_mul_emod_self_left, Int.emod_eq_of_lt hb.1 hb.2]

/-- A number's bits from a place on, some of them. -/
def cut (v : Int) (p n : Nat) : Int := v / 2 ^ p % 2 ^ n

theorem cut_nonneg {v : Int} (h : 0 ≤ v) (p n : Nat) : 0 ≤ cut v p n := Int.emod_nonneg _ (Int.ne_of_gt (pow_pos2 n))
theorem cut_lt (v : Int) (p n : Nat) : cut v p n < 2 ^ n := Int.emod_lt_of_pos _ (pow_pos2 n)

theorem div_mod_pow (v : Int) (p q : Nat) : v % 2 ^ (p + q) / 2 ^ p = cut v p q := by
  unfold cut
  have hp := pow_pos2 p
  have hq := pow_pos2 q
  rw [Int.pow_add]
  -- v = v % (P*Q) + P*Q*k
  have e1 : v = v % (2 ^ p * 2 ^ q) + 2 ^ p * 2 ^ q * (v / (2 ^ p * 2 ^ q)) := (Int.emod_add_mul_ediv v _).symm
  have hr0 : 0 ≤ v % (2 ^ p * 2 ^ q) := Int.emod_nonneg _ (Int.ne_of_gt (Int.mul_pos hp hq))
  have hr1 : v % (2 ^ p * 2 ^ q) < 2 ^ p * 2 ^ q := Int.emod_lt_of_pos _ (Int.mul_pos hp hq)
  have e2 : v / 2 ^ p = v % (2 ^ p * 2 ^ q) / 2 ^ p + 2 ^ q * (v / (2 ^ p * 2 ^ q)) := by
    conv => lhs; rw [e1]
    rw [Int.mul_assoc, Int.add_mul_ediv_left _ _ (Int.ne_of_gt hp)]
  rw [e2, Int.add_mul_emod_self_left, Int.emod_eq_of_lt (Int.ediv_nonneg hr0 (Int.le_of_lt hp)) (Int.ediv_lt_of_lt_mul hp (by rw [Int.mul_comm (2 ^ q)]; exact hr1))]

/-- The bits that the reader has in hand. -/
theorem hold_eq {xs : List Int} (h : Byt xs) {a b p : Nat} (ha : a ≤ xs.length) (e : 8 * a = p + b) : V (xs.take a) / 2 ^ p = cut (V xs) p b := by
  rw [← V_take h ha, e, div_mod_pow]

theorem cut_succ {xs : List Int} (h : Byt xs) {a b p : Nat} (ha : a < xs.length) (e : 8 * a = p + b) : cut (V xs) p (b + 8) = cut (V xs) p b + 2 ^ b * xs.getD a 0 := by
  rw [← hold_eq h (Nat.succ_le_of_lt ha) (p := p) (b := b + 8) (by omega), ← hold_eq h (Nat.le_of_lt ha) e, V_take_succ ha, e, Int.pow_add, Int.mul_assoc, Int.add_mul_ediv_left _ _ (Int.ne_of_gt (pow_pos2 p))]

theorem cut_cut (v : Int) (p b n : Nat) (hn : n ≤ b) : cut v p b % 2 ^ n = cut v p n := by
  unfold cut
  obtain ⟨k, rfl⟩ : ∃ k, b = n + k := ⟨b - n, by omega⟩
  rw [Int.pow_add, Int.emod_emod_of_dvd _ ⟨_, rfl⟩]
theorem cut_drop (v : Int) (p b n : Nat) (hn : n ≤ b) : cut v p b / 2 ^ n = cut v (p + n) (b - n) := by
  obtain ⟨k, rfl⟩ : ∃ k, b = n + k := ⟨b - n, by omega⟩
  rw [Nat.add_sub_cancel_left]
  have : cut v p (n + k) = v / 2 ^ p % 2 ^ (n + k) := rfl
  rw [this, div_mod_pow]
  unfold cut
  rw [Int.pow_add, Int.ediv_ediv_of_nonneg (Int.le_of_lt (pow_pos2 p))]

end Go.Sx

/- The reader: contracts of its inner functions. -/
set_option maxRecDepth 100000
set_option maxHeartbeats 4000000
set_option linter.unusedVariables false
namespace Go.Sx
open Go.Proofs.Try

theorem wrap64 {n : Int} (h : -9223372036854775808 ≤ n ∧ n ≤ 9223372036854775807) : IntKind.i64.wrap n = n := by rw [Go.IntKind.wrap_i64]; omega
theorem wrapu64 {n : Int} (h : 0 ≤ n ∧ n < 18446744073709551616) : IntKind.u64.wrap n = n := by rw [Go.IntKind.wrap_u64]; omega
theorem wrapu32 {n : Int} (h : 0 ≤ n ∧ n < 4294967296) : IntKind.u32.wrap n = n := by rw [Go.IntKind.wrap_u32]; omega

theorem wu64 : ∀ n : Int, 0 ≤ n → n < 2 ^ 64 → IntKind.u64.wrap n = n := fun n h0 h1 => wrapu64 ⟨h0, h1⟩

theorem shl64 {a : Int} {n : Nat} (hn : n ≤ 64) (h0 : 0 ≤ a) (h1 : a * 2 ^ n < 18446744073709551616) : shlI .u64 a n = a * 2 ^ n := by
  unfold shlI
  rw [show min (n : Int).toNat IntKind.u64.bits = n by show min n 64 = n; omega]
  exact wrapu64 ⟨Int.mul_nonneg h0 (Int.le_of_lt (pow_pos2 n)), h1⟩
theorem shr64 {a : Int} {n : Nat} (hn : n ≤ 64) : shrI .u64 a n = a / 2 ^ n := by
  unfold shrI
  rw [show min (n : Int).toNat IntKind.u64.bits = n by show min n 64 = n; omega]
  exact Int.fdiv_eq_ediv_of_nonneg _ (Int.le_of_lt (pow_pos2 n))
theorem mask64 {a : Int} {n : Nat} (hn : n ≤ 63) (h0 : 0 ≤ a) (h1 : a < 18446744073709551616) : band .u64 a (IntKind.u64.wrap (shlI .u64 1 n - 1)) = a % 2 ^ n := by
  have hp := pow_pos2 n
  have hq : (2 : Int) ^ n ≤ 2 ^ 63 := by exact_mod_cast Nat.pow_le_pow_right (by decide) hn
  rw [shl64 (by omega) (by decide) (by omega), Int.one_mul, wrapu64 (by omega)]
  exact bits_mask .u64 64 (Nat.le_refl _) wu64 n (by omega) a h0 h1
theorem or64 {a b : Int} {n : Nat} (h0 : 0 ≤ a) (h1 : a < 2 ^ n) (h2 : 0 ≤ b) (h3 : a + b * 2 ^ n < 18446744073709551616) : bor .u64 a (b * 2 ^ n) = a + b * 2 ^ n := by
  have hp := pow_pos2 n
  have hb := Int.mul_nonneg h2 (Int.le_of_lt hp)
  have e : bor .u64 a (b * 2 ^ n) = bor .u64 (b * 2 ^ n) a := by
    unfold bor; rw [BitVec.or_comm]
  rw [e, Int.add_comm]
  exact bits_join .u64 64 (Nat.le_refl _) wu64 n _ _ hb (Int.mul_emod_left _ _) (by show _ < (18446744073709551616 : Int); omega) h0 h1 (by show _ < (18446744073709551616 : Int); omega)

/-- A reader's state: p bits are read, the next a bytes less b bits. -/
def RF (xs : List Int) (p a b : Nat) (at_ hold nb : Int) : Prop :=
  at_ = a ∧ nb = b ∧ 8 * a = p + b ∧ a ≤ xs.length ∧ b ≤ 39 ∧ hold = cut (V xs) p b

/-- A row that is a reader's. -/
def RX (xs : List Int) (m : Nat) : Prop := Byt xs ∧ m = xs.length ∧ xs.length ≤ 1000000000000

theorem s_right (n : Int) : Spec prog 60 [.int .i64 n] [] (fun r H => r = .bool (decide (0 ≤ n) && decide (n ≤ 32)) ∧ H = []) := by
  refine Spec_of_xX (D := fun _ => (0, [])) (ks := [0, 2]) tok mixed (fn := f60) rfl rfl rfl (by kernel_rfl) (N := 9) rfl (rs := [.tmp 2]) rfl (by show 1 ≤ 9; omega) fun A C ag L q hA hC hag hL hq => ?_
  cbv
  refine ifB_intro (fun h => ?_) (fun h => ?_)
  · rw [h]
    cbv
    subst hA hq
    have h : 0 ≤ n := of_decide_eq_true h
    exact ⟨by simp [h]; rfl, rfl⟩
  · rw [h]
    cbv
    subst hA hq
    have h : ¬ 0 ≤ n := of_decide_eq_false h
    exact ⟨by simp [h], rfl⟩

theorem s_err (m : Nat) (at_ hold nb er : Int) : Spec prog 40 [.ptr 0 0] [.vw [.lst 1 m, .int .i64 at_, .int .u64 hold, .int .i64 nb, .int .i64 er, .bool true], .vw []]
    (fun r H => r = .int .i64 er ∧ H = [.vw [.lst 1 m, .int .i64 at_, .int .u64 hold, .int .i64 nb, .int .i64 er, .bool true], .vw []]) := by
  refine Spec_of_xX (D := fun _ => (0, [])) (ks := [0, 2]) tok mixed (fn := f40) rfl rfl rfl (by kernel_rfl) (N := 16) rfl (rs := [.tmp 2]) rfl (by show 1 ≤ 16; omega) fun A C ag L q hA hC hag hL hq => ?_
  cbv
  refine ifB_intro (fun h => ?_) (fun h => ?_)
  · subst hA; exact absurd h (by decide)
  · cbv
    subst hq
    exact ⟨rfl, rfl⟩

theorem s_drop (m : Nat) (xs : List Int) (at_ hold nb er k : Int) (hk : 0 ≤ k) : Spec prog 62 [.ptr 0 0, .int .i64 k] [.box 76 [.lst 1 m, .int .i64 at_, .int .u64 hold, .int .i64 nb, .int .i64 er, .bool true], .lst 5 1 (R.ints .u8 xs)]
    (fun r H => r = .tup [] ∧ H = [.box 76 [.lst 1 m, .int .i64 at_, .int .u64 (shrI .u64 hold k), .int .i64 (IntKind.i64.wrap (nb - k)), .int .i64 er, .bool true], .lst 5 1 (R.ints .u8 xs)]) := by
  refine Spec_of_xX (D := fun _ => (0, [])) (ks := [0, 1]) tok mixed (fn := f62) rfl rfl rfl (by kernel_rfl) (N := 20) rfl (rs := []) rfl (by show 2 ≤ 20; omega) fun A C ag L q hA hC hag hL hq => ?_
  rw [← hA]
  cbv
  subst hA hq
  exact ⟨hk, rfl, rfl⟩

theorem s_fill (xs : List Int) (m p a b : Nat) (hx : RX xs m) (at_ hold nb er n : Int) (hn : n ≤ 32) (hF : RF xs p a b at_ hold nb) :
    Spec prog 61 [.ptr 0 0, .int .i64 n] [.box 76 [.lst 1 m, .int .i64 at_, .int .u64 hold, .int .i64 nb, .int .i64 er, .bool true], .lst 5 1 (R.ints .u8 xs)]
      (fun r H => r = .tup [] ∧ ∃ (a b : Nat) (at_ hold nb : Int), RF xs p a b at_ hold nb ∧ (n ≤ nb ∨ a = xs.length) ∧ H = [.box 76 [.lst 1 m, .int .i64 at_, .int .u64 hold, .int .i64 nb, .int .i64 er, .bool true], .lst 5 1 (R.ints .u8 xs)]) := by
  refine Spec_of_xX (D := fun i => if i = 0 then (16, []) else (20, [])) (ks := [0, 1]) tok mixed (fn := f61) rfl rfl rfl (by kernel_rfl) (N := 59) rfl (rs := []) rfl (by show 2 ≤ 59; omega) fun A C ag L q hA hC hag hL hq => ?_
  rw [← hA]
  cbv
  rw [hL]
  refine loop_keep (fun k s => ∃ (a b : Nat) (at_ hold nb : Int), RF xs p a b at_ hold nb ∧ k = xs.length - a ∧ s = ⟨[(0, .ptr 0 0), (1, .int .i64 n)], [.box 76 [.lst 1 m, .int .i64 at_, .int .u64 hold, .int .i64 nb, .int .i64 er, .bool true], .lst 5 1 (A.ints .u8 xs)]⟩) [0, 1] _ ⟨a, b, at_, hold, nb, hF, rfl, rfl⟩ ?_
  rintro k _ ⟨a, b, at_, hold, nb, hF, hk, rfl⟩
  cbv
  refine ifB_intro (fun h => ?_) (fun h => ?_)
  · rw [h]
    cbv
    refine ifB_intro (fun h' => ?_) (fun h' => ?_)
    · rw [h']
      cbv
      have hlt : 0 + at_.toNat < xs.length ∧ A.inr at_ m ∧ at_.toNat = a := by
        obtain ⟨h1, -, -, h4, -⟩ := hF
        obtain ⟨-, hm, -⟩ := hx
        subst hA
        have h' : at_ < (m : Int) := of_decide_eq_true h'
        refine ⟨by omega, ⟨by omega, h'⟩, by omega⟩
      obtain ⟨y, hy, hy2⟩ := nthA_ex hA .u8 hlt.1
      refine ⟨hlt.2.1, bindO_some hy ?_⟩
      cbv
      refine ⟨?_, ?_⟩
      · subst hA
        show 0 ≤ nb
        have := hF.2.1; omega
      subst hA hag
      rw [hlt.2.2, Nat.zero_add] at hy2
      refine again_keep [0, 1] (xs.length - (a + 1)) ?_ ⟨a + 1, b + 8, _, _, _, ?_, rfl, rfl⟩
      · have := hlt.1; omega
      obtain ⟨h1, h2, h3, h4, h5, h6⟩ := hF
      obtain ⟨hb, hm, hl⟩ := hx
      have hlt' : a < xs.length := by omega
      have h : nb < n := of_decide_eq_true h
      have hyb := hb.get hlt'
      rw [← hy2] at hyb
      have hc0 := cut_nonneg (V_bnd hb).1 p b
      have hc1 := cut_lt (V xs) p b
      have hq : (2 : Int) ^ b ≤ 2 ^ 39 := by exact_mod_cast Nat.pow_le_pow_right (by decide) h5
      have hp := pow_pos2 b
      have hq39 : (2 : Int) ^ 39 = 549755813888 := by decide
      have hyp : y * 2 ^ b ≤ 255 * 549755813888 := Int.mul_le_mul (by omega) (by omega) (by omega) (by omega)
      refine ⟨?_, ?_, by omega, by omega, by omega, ?_⟩
      · show IntKind.i64.wrap (at_ + 1) = _
        rw [wrap64 (by omega)]; omega
      · show IntKind.i64.wrap (nb + 8) = _
        rw [wrap64 (by omega)]; omega
      · show bor .u64 hold (shlI .u64 (IntKind.u64.wrap y) nb) = _
        rw [wrapu64 (by omega), h2, shl64 (by omega) (by omega) (by omega), h6, or64 hc0 hc1 (by omega) (by omega), cut_succ hb hlt' h3, hy2, Int.mul_comm]
    · rw [h']
      cbv
      subst hA hq
      refine ⟨rfl, a, b, at_, hold, nb, hF, .inr ?_, rfl⟩
      have h' : ¬ at_ < (m : Int) := of_decide_eq_false h'
      obtain ⟨h1, h2, h3, h4, h5, h6⟩ := hF
      obtain ⟨-, hm, -⟩ := hx
      omega
  · rw [h]
    cbv
    subst hA hq
    have h : ¬ nb < n := of_decide_eq_false h
    exact ⟨rfl, a, b, at_, hold, nb, hF, .inl (by omega), rfl⟩
end Go.Sx

/- lzw: a table, new. -/
set_option maxRecDepth 100000
set_option maxHeartbeats 4000000
set_option linter.unusedVariables false
set_option linter.unusedSimpArgs false
namespace Go.Sx
open Go.Proofs.Try

theorem row_num {A : Ar} (hA : A = R) {n : Int} {k : IntKind} : A.row n [.int k 0] = A.ints k (List.replicate n.toNat 0) := by
  subst hA
  show zrow n.toNat [.int k 0] = ints k _
  rw [zrow_one]
  simp [ints, SV.of]

theorem getD_rep {n q : Nat} (v : Int) {d : Int} (h : q < n) : (List.replicate n v).getD q d = v := by
  rw [List.getD, List.getElem?_replicate, if_pos h]
  rfl
/-- A table's chunks: parents, ends, the children, the last one, how many. -/
def TbH (A : Ar) (ps es : List Int) (m : List Int → Option Int) (last used : Int) : List Ck :=
  [.box 79 [.lst 1 8192, .lst 2 8192, .mapv 3, .int .i64 last, .int .i64 used], .lst 3 1 (A.ints .i64 ps), .lst 5 1 (A.ints .u8 es), .mp [.i64, .u8] m]

theorem keyL : KeyOk prog 98 [.i64, .u8] := keyOk_struct (by kernel_rfl) (by kernel_rfl) (by kernel_rfl)

theorem mapL : prog.underlying 77 = some (.map 98 3) := by kernel_rfl

theorem s_znew : Spec prog 21 [] [] (fun r H => r = .ptr 0 0 ∧ H = TbH R (List.replicate 8192 (-1)) (List.replicate 8192 0) (fun _ => none) 256 0) := by
  refine Spec_of_kF (D := fun i => if i = 1 then (6, [1000001,1000002,1001002]) else (0, [])) (ks := [0, 1, 2, 12, 13]) tok mixed (fn := f21) rfl rfl rfl (by kernel_rfl) (N := 24) rfl (rs := [.tmp 0]) rfl (Nat.le_of_ble_eq_true rfl) fun A C Kp E ag L q hA hC hK hE hag hL hq => ?_
  cbv
  refine ⟨⟨[[0,1,2,3,4,5],[0,2,1,3,4,5],[2,0,1,3,4,5],[1,0,2,3,4,5],[1,2,0,3,4,5],[2,1,0,3,4,5]], by kernel_rfl, fun F hF => ?_⟩⟩
  obtain ⟨z8, hz8⟩ : ∃ z8 : List Int, z8 = List.replicate 8192 0 := ⟨_, rfl⟩
  have h3 : F ⟨[(0, .nilP), (1, .ptr 0 0)], [.box 79 [.lst 1 8192, .lst 2 8192, .mapv 3, .int .i64 256, .int .i64 0], .lst 3 1 (A.ints .i64 z8), .lst 5 1 (A.ints .u8 z8), .mp [.i64, .u8] fun _ => none]⟩ := by
    refine hF _ ?_
    clear hF
    cbv
    rw [hL]
    have hz8l : z8.length = 8192 := by rw [hz8, List.length_replicate]
    refine loop_keep (fun kk s => ∃ (i : Int) (j : Nat) (ps : List Int), i = (j : Int) ∧ j ≤ 8192 ∧ ps.length = 8192 ∧ (∀ q, q < 8192 → ps.getD q 0 = if q < j then -1 else 0) ∧ kk = 8192 - j ∧ s = ⟨[(1, .ptr 0 0), (12, .int .i64 (A.nat 8192)), (13, .int .i64 i)], [.box 79 [.lst 1 8192, .lst 2 8192, .mapv 3, .int .i64 256, .int .i64 0], .lst 3 1 (A.ints .i64 ps), .lst 5 1 (A.ints .u8 z8), .mp [.i64, .u8] fun _ => none]⟩)
      [1, 12, 13] 8192 ⟨0, 0, z8, rfl, by omega, hz8l, fun p hp => by rw [hz8, if_neg (by omega), getD_rep _ hp], rfl, rfl⟩ ?_
    rintro kk _ ⟨i, j, ps, hi, hj, hpl, hps, hkk, rfl⟩
    cbv
    (try simp only [ncast] at *)
    refine ifB_intro (fun h => ?_) (fun h => ?_)
    · have hlt := h
      (try simp only [natA hA, lssA hA, leqA hA, gtrA hA, geqA hA, eqlA hA, neqA hA, notA hA, beqA hA, decide_eq_true_eq, decide_eq_false_iff_not, beq_iff_eq, beq_eq_false_iff_ne, bne_iff_ne, bne_eq_false_iff_eq, Bool.not_eq_true', Bool.not_eq_false', ncast, Int.not_lt, Int.not_le, ne_eq, not_true_eq_false, not_false_eq_true, false_or, true_and] at hlt)
      (try rw [h]); clear h
      cbv
      (try simp only [ncast] at *)
      refine wrA hA (by (first | omega | (try simp only [natA hA, lssA hA, leqA hA, gtrA hA, geqA hA, eqlA hA, neqA hA, notA hA, beqA hA, decide_eq_true_eq, decide_eq_false_iff_not, beq_iff_eq, beq_eq_false_iff_ne, bne_iff_ne, bne_eq_false_iff_eq, Bool.not_eq_true', Bool.not_eq_false', ncast, Int.not_lt, Int.not_le, ne_eq, not_true_eq_false, not_false_eq_true, false_or, true_and, addA hA, subA' hA, inrA hA, ge0A hA, ne0A hA, leIA hA, ixA hA, cntA hA, addNA hA, tnA hA, posA hA, Go.IntKind.wrap_i64] at *) <;> omega | (try simp only [decide_eq_true_eq, decide_eq_false_iff_not, beq_iff_eq, beq_eq_false_iff_ne, bne_iff_ne, bne_eq_false_iff_eq, Bool.not_eq_true', Bool.not_eq_false', ncast, Int.not_lt, Int.not_le, ne_eq, not_true_eq_false, not_false_eq_true, false_or, true_and, Go.IntKind.wrap_i64] at *) <;> omega)) (by (first | omega | (try simp only [natA hA, lssA hA, leqA hA, gtrA hA, geqA hA, eqlA hA, neqA hA, notA hA, beqA hA, decide_eq_true_eq, decide_eq_false_iff_not, beq_iff_eq, beq_eq_false_iff_ne, bne_iff_ne, bne_eq_false_iff_eq, Bool.not_eq_true', Bool.not_eq_false', ncast, Int.not_lt, Int.not_le, ne_eq, not_true_eq_false, not_false_eq_true, false_or, true_and, addA hA, subA' hA, inrA hA, ge0A hA, ne0A hA, leIA hA, ixA hA, cntA hA, addNA hA, tnA hA, posA hA, Go.IntKind.wrap_i64] at *) <;> omega | (try simp only [decide_eq_true_eq, decide_eq_false_iff_not, beq_iff_eq, beq_eq_false_iff_ne, bne_iff_ne, bne_eq_false_iff_eq, Bool.not_eq_true', Bool.not_eq_false', ncast, Int.not_lt, Int.not_le, ne_eq, not_true_eq_false, not_false_eq_true, false_or, true_and, Go.IntKind.wrap_i64] at *) <;> omega)) fun ys hys => ?_
      cbv
      (try simp only [ncast] at *)
      have e : A.bin .add .i64 i 1 = i + 1 := by rw [addA hA, wrap64 (by omega)]
      simp only [e]
      subst hag
      refine ⟨8192 - (j + 1), ⟨[(1, .ptr 0 0), (12, .int .i64 (A.nat 8192)), (13, .int .i64 (i + 1))], [.box 79 [.lst 1 8192, .lst 2 8192, .mapv 3, .int .i64 256, .int .i64 0], .lst 3 1 (A.ints .i64 ys), .lst 5 1 (A.ints .u8 z8), .mp [.i64, .u8] fun _ => none]⟩, by omega, ?_, i + 1, j + 1, ys, by omega, by omega, by rw [hys, List.length_set]; exact hpl, fun p hp => ?_, rfl, rfl⟩
      · subst hA
        exact Sub_of [0, 1, 2, 3] (by simp [sigOk, ndG]) (by simp) (by repeat' (first | exact trivial | exact fun _ => rfl | exact fun h => absurd h (by simp) | exact subC_ints rfl | refine And.intro ?_ ?_ | rfl | (simp [subH_nil, hLts, hLt, renCk, renC, sg, Ck.cells, R_ints_ren, R_ints_hLts]; done))) (by repeat' (first | exact trivial | exact .inr ⟨trivial, rfl⟩ | exact .inr ⟨by simp [vOk, hLt, hLts], rfl⟩ | refine And.intro ?_ ?_))
      · rw [hys, show 0 + i.toNat = j by omega]
        simp only [List.getD, List.getElem?_set]
        by_cases hqj : j = p
        · subst hqj
          rw [if_pos rfl, if_pos (by omega), if_pos (by omega)]
          rfl
        · rw [if_neg hqj]
          have := hps p hp
          simp only [List.getD] at this
          rw [this]
          split <;> split <;> omega
    · have hge := h
      (try simp only [natA hA, lssA hA, leqA hA, gtrA hA, geqA hA, eqlA hA, neqA hA, notA hA, beqA hA, decide_eq_true_eq, decide_eq_false_iff_not, beq_iff_eq, beq_eq_false_iff_ne, bne_iff_ne, bne_eq_false_iff_eq, Bool.not_eq_true', Bool.not_eq_false', ncast, Int.not_lt, Int.not_le, ne_eq, not_true_eq_false, not_false_eq_true, false_or, true_and] at hge)
      (try rw [h]); clear h
      cbv
      (try simp only [ncast] at *)
      have hpe : ps = List.replicate 8192 (-1) := by
        refine List.ext_getElem (by rw [List.length_replicate]; exact hpl) fun p h1 h2 => ?_
        have := hps p (by omega)
        rw [if_pos (by omega)] at this
        simp only [List.getD, List.getElem?_eq_getElem h1, Option.getD_some] at this
        rw [this, List.getElem_replicate]
      subst hA hq
      refine Fin_of ⟨[(0, .ptr 0 0)], TbH R ps z8 (fun _ => none) 256 0⟩ ?_ ⟨rfl, by rw [hpe, hz8]⟩
      unfold TbH
      exact Sub_of [0, 1, 2, 3] (by simp [sigOk, ndG]) (by simp) (by repeat' (first | exact trivial | exact fun _ => rfl | exact fun h => absurd h (by simp) | exact subC_ints rfl | refine And.intro ?_ ?_ | rfl | (simp [subH_nil, hLts, hLt, renCk, renC, sg, Ck.cells, R_ints_ren, R_ints_hLts]; done))) (by repeat' (first | exact trivial | exact .inr ⟨trivial, rfl⟩ | exact .inr ⟨by simp [vOk, hLt, hLts], rfl⟩ | refine And.intro ?_ ?_))
  clear hF
  cbv
  have hr1 : A.row 8192 [.int .i64 0] = A.ints .i64 z8 := by rw [hz8]; exact row_num hA
  have hr2 : A.row 8192 [.int .u8 0] = A.ints .u8 z8 := by rw [hz8]; exact row_num hA
  have ht : A.tn 8192 = 8192 := by rw [tnA hA]; rfl
  have hm1 : A.mks 8 8192 8192 := by rw [mksA hA]; omega
  have hm2 : A.mks 1 8192 8192 := by rw [mksA hA]; omega
  simp only [hr1, hr2, ht, hm1, hm2, true_and]
  refine ⟨?_, ?_, ?_, ?_, ?_, ?_, trivial⟩
  · refine hk_mmake hE _ [.i64, .u8] rfl ?_
    cbv
    (try simp only [hr1, hr2, ht, hm1, hm2, true_and])
    subst hA hag
    refine ⟨0, _, by omega, ?_, h3⟩
    exact Sub_of [3,0,1,2] (by simp [sigOk, ndG]) (by simp) (by repeat' (first | exact trivial | exact fun _ => rfl | exact fun h => absurd h (by simp) | exact subC_ints rfl | refine And.intro ?_ ?_ | rfl | (simp [subH_nil, hLts, hLt, renCk, renC, sg, Ck.cells, R_ints_ren, R_ints_hLts]; done))) (by repeat' (first | exact trivial | exact .inr ⟨trivial, rfl⟩ | exact .inr ⟨by simp [vOk, hLt, hLts], rfl⟩ | refine And.intro ?_ ?_))
  · refine hk_mmake hE _ [.i64, .u8] rfl ?_
    cbv
    (try simp only [hr1, hr2, ht, hm1, hm2, true_and])
    subst hA hag
    refine ⟨0, _, by omega, ?_, h3⟩
    exact Sub_of [3,0,2,1] (by simp [sigOk, ndG]) (by simp) (by repeat' (first | exact trivial | exact fun _ => rfl | exact fun h => absurd h (by simp) | exact subC_ints rfl | refine And.intro ?_ ?_ | rfl | (simp [subH_nil, hLts, hLt, renCk, renC, sg, Ck.cells, R_ints_ren, R_ints_hLts]; done))) (by repeat' (first | exact trivial | exact .inr ⟨trivial, rfl⟩ | exact .inr ⟨by simp [vOk, hLt, hLts], rfl⟩ | refine And.intro ?_ ?_))
  · refine hk_mmake hE _ [.i64, .u8] rfl ?_
    cbv
    (try simp only [hr1, hr2, ht, hm1, hm2, true_and])
    subst hA hag
    refine ⟨0, _, by omega, ?_, h3⟩
    exact Sub_of [3,1,2,0] (by simp [sigOk, ndG]) (by simp) (by repeat' (first | exact trivial | exact fun _ => rfl | exact fun h => absurd h (by simp) | exact subC_ints rfl | refine And.intro ?_ ?_ | rfl | (simp [subH_nil, hLts, hLt, renCk, renC, sg, Ck.cells, R_ints_ren, R_ints_hLts]; done))) (by repeat' (first | exact trivial | exact .inr ⟨trivial, rfl⟩ | exact .inr ⟨by simp [vOk, hLt, hLts], rfl⟩ | refine And.intro ?_ ?_))
  · refine hk_mmake hE _ [.i64, .u8] rfl ?_
    cbv
    (try simp only [hr1, hr2, ht, hm1, hm2, true_and])
    subst hA hag
    refine ⟨0, _, by omega, ?_, h3⟩
    exact Sub_of [3,1,0,2] (by simp [sigOk, ndG]) (by simp) (by repeat' (first | exact trivial | exact fun _ => rfl | exact fun h => absurd h (by simp) | exact subC_ints rfl | refine And.intro ?_ ?_ | rfl | (simp [subH_nil, hLts, hLt, renCk, renC, sg, Ck.cells, R_ints_ren, R_ints_hLts]; done))) (by repeat' (first | exact trivial | exact .inr ⟨trivial, rfl⟩ | exact .inr ⟨by simp [vOk, hLt, hLts], rfl⟩ | refine And.intro ?_ ?_))
  · refine hk_mmake hE _ [.i64, .u8] rfl ?_
    cbv
    (try simp only [hr1, hr2, ht, hm1, hm2, true_and])
    subst hA hag
    refine ⟨0, _, by omega, ?_, h3⟩
    exact Sub_of [3,2,0,1] (by simp [sigOk, ndG]) (by simp) (by repeat' (first | exact trivial | exact fun _ => rfl | exact fun h => absurd h (by simp) | exact subC_ints rfl | refine And.intro ?_ ?_ | rfl | (simp [subH_nil, hLts, hLt, renCk, renC, sg, Ck.cells, R_ints_ren, R_ints_hLts]; done))) (by repeat' (first | exact trivial | exact .inr ⟨trivial, rfl⟩ | exact .inr ⟨by simp [vOk, hLt, hLts], rfl⟩ | refine And.intro ?_ ?_))
  · refine hk_mmake hE _ [.i64, .u8] rfl ?_
    cbv
    (try simp only [hr1, hr2, ht, hm1, hm2, true_and])
    subst hA hag
    refine ⟨0, _, by omega, ?_, h3⟩
    exact Sub_of [3,2,1,0] (by simp [sigOk, ndG]) (by simp) (by repeat' (first | exact trivial | exact fun _ => rfl | exact fun h => absurd h (by simp) | exact subC_ints rfl | refine And.intro ?_ ?_ | rfl | (simp [subH_nil, hLts, hLt, renCk, renC, sg, Ck.cells, R_ints_ren, R_ints_hLts]; done))) (by repeat' (first | exact trivial | exact .inr ⟨trivial, rfl⟩ | exact .inr ⟨by simp [vOk, hLt, hLts], rfl⟩ | refine And.intro ?_ ?_))
end Go.Sx

/- lzw: what a table tells without the children's help. -/
set_option maxRecDepth 100000
set_option maxHeartbeats 4000000
set_option linter.unusedVariables false
set_option linter.unusedSimpArgs false
namespace Go.Sx
open Go.Proofs.Try

/-- A table that may be. -/
structure ZT (ps es : List Int) (last used : Int) : Prop where
  pl : ps.length = 8192
  el : es.length = 8192
  la : 256 ≤ last ∧ last ≤ 8191
  us : 0 ≤ used ∧ used ≤ 8192
  pr : ∀ q, q < 8192 → ps.getD q 0 = -1 ∨ (0 ≤ ps.getD q 0 ∧ ps.getD q 0 ≤ 8191)
  er : ∀ q, 0 ≤ es.getD q 0 ∧ es.getD q 0 ≤ 255
/-- A table that is only looked at. -/
def VH (A : Ar) (ps es : List Int) (last used : Int) : List Ck :=
  [.vw [.lst 1 8192, .lst 2 8192, .mapv 3, .int .i64 last, .int .i64 used], .vw (A.ints .i64 ps), .vw (A.ints .u8 es), .vw []]

/-- Where a table stands. -/
structure TV (A : Ar) (H : List Ck) (h0 h1 h2 h3 : Nat) (ps es : List Int) (last used : Int) : Prop where
  c0 : cellsAt H h0 0 5 = some [.lst h1 8192, .lst h2 8192, .mapv h3, .int .i64 last, .int .i64 used]
  c1 : cellsAt H h1 0 8192 = some (A.ints .i64 ps)
  c2 : cellsAt H h2 0 8192 = some (A.ints .u8 es)
  c3 : cellsAt H h3 0 0 = some []

theorem zcells {A : Ar} (hA : A = R) {H : List Ck} {j n : Nat} {c : Ck} {k : IntKind} {l : List Int} (hc : H[j]? = some c) (he : c.cells = A.ints k l) (hn : l.length = n) : cellsAt H j 0 n = some (A.ints k l) := by
  rw [cellsAt_eq hc (by rw [he, A_ints_len hA]; omega), he, List.drop_zero, ← hn, ← A_ints_len hA k l, List.take_length]
theorem zcell0 {H : List Ck} {j : Nat} {c : Ck} (hc : H[j]? = some c) : cellsAt H j 0 0 = some [] := by
  rw [cellsAt_eq hc (by omega)]
  rfl
theorem TV.vws {A : Ar} (hA : A = R) {H : List Ck} {h0 h1 h2 h3 : Nat} {ps es : List Int} {last used : Int} (hT : ZT ps es last used) {c3 : Ck} (k0 : H[h0]? = some (.vw [.lst h1 8192, .lst h2 8192, .mapv h3, .int .i64 last, .int .i64 used]))
    (k1 : H[h1]? = some (.vw (A.ints .i64 ps))) (k2 : H[h2]? = some (.vw (A.ints .u8 es))) (k3 : H[h3]? = some c3) : TV A H h0 h1 h2 h3 ps es last used :=
  ⟨by rw [cellsAt_eq k0 (by show 0 + 5 ≤ 5; omega)]; rfl, zcells hA k1 rfl hT.pl, zcells hA k2 rfl hT.el, zcell0 k3⟩
/-- ... one's own. -/
structure TO (A : Ar) (H : List Ck) (h0 h1 h2 h3 : Nat) (ps es : List Int) (m : List Int → Option Int) (last used : Int) : Prop where
  o0 : H[h0]? = some (.box 79 [.lst h1 8192, .lst h2 8192, .mapv h3, .int .i64 last, .int .i64 used])
  o1 : H[h1]? = some (.lst 3 1 (A.ints .i64 ps))
  o2 : H[h2]? = some (.lst 5 1 (A.ints .u8 es))
  o3 : H[h3]? = some (.mp [.i64, .u8] m)
theorem TO.tv {A : Ar} (hA : A = R) {H : List Ck} {h0 h1 h2 h3 : Nat} {ps es : List Int} {m : List Int → Option Int} {last used : Int} (hT : ZT ps es last used) (h : TO A H h0 h1 h2 h3 ps es m last used) : TV A H h0 h1 h2 h3 ps es last used :=
  ⟨by rw [cellsAt_eq h.o0 (by show 0 + 5 ≤ 5; omega)]; rfl, zcells hA h.o1 rfl hT.pl, zcells hA h.o2 rfl hT.el, zcell0 h.o3⟩

section
variable {A : Ar} {C : CallT} {s : St} {κ : List Nat → SV → List Ck → Prop} {h0 h1 h2 h3 : Nat} {ps es : List Int} {last used : Int}
theorem matchV (hA : A = R) (k : TV A s.H h0 h1 h2 h3 ps es last used) (hT : ZT ps es last used) : matchH 4 (linkOf s.H.length [(h0, 0, false), (h1, 0, false), (h2, 0, false), (h3, 0, false)]) s.H [(h0, 0, false), (h1, 0, false), (h2, 0, false), (h3, 0, false)] (VH R ps es last used) := by
  refine ⟨⟨(show 1 < 4 by omega), (show 2 < 4 by omega), (show 3 < 4 by omega), trivial, trivial, trivial⟩, ⟨rfl, rfl, trivial, trivial, trivial, trivial⟩, k.c0, hLtsA rfl .., zOksA rfl .., ?_, hLtsA rfl .., zOksA rfl .., ?_, trivial, trivial, k.c3, trivial⟩
  · rw [renA rfl, A_ints_len rfl, hT.pl, ← hA]; exact k.c1
  · rw [renA rfl, A_ints_len rfl, hT.el, ← hA]; exact k.c2
end

theorem s_zok (ps es : List Int) (last used : Int) (hT : ZT ps es last used) : Spec prog 63 [.ptr 0 0] (VH R ps es last used) (fun r H => r = .bool true ∧ H = VH R ps es last used) := by
  refine Spec_of_kX (D := fun i => (0, [])) (ks := [0, 2]) tok mixed (fn := f63) rfl rfl rfl (by kernel_rfl) (N := 13) rfl (rs := [.tmp 2]) rfl (Nat.le_of_ble_eq_true rfl) fun A C Kp E ag L q hA hC hK hE hag hL hq => ?_
  rw [← hA]
  cbv
  simp only [natA hA, gtrA hA]
  subst hA hq
  exact ⟨rfl, rfl⟩

section
variable {A : Ar} {C : CallT} {s : St} {κ : List Nat → SV → List Ck → Prop} {h0 h1 h2 h3 : Nat} {ps es : List Int} {last used : Int}
theorem call_zok (hC : C = CallX prog) (hA : A = R) (hT : ZT ps es last used) (k : TV A s.H h0 h1 h2 h3 ps es last used) (hk : κ [] (.bool true) s.H) : C 63 [.ptr h0 0] s κ :=
  cal_vw hC (s_zok ps es last used hT) [(h0, 0, false), (h1, 0, false), (h2, 0, false), (h3, 0, false)] rfl (matchV hA k hT) ⟨⟨(show 0 < 4 by omega), trivial, rfl⟩, trivial⟩ rfl hk
end

/-- The next code. -/
def NxQ (ps : List Int) (last n : Int) : Prop := (n = -1 ∧ ∀ q : Nat, last < (q : Int) → q < 8192 → ps.getD q 0 ≠ -1) ∨ (∃ j : Nat, n = (j : Int) ∧ last < n ∧ j < 8192 ∧ ps.getD j 0 = -1 ∧ ∀ q : Nat, last < (q : Int) → q < j → ps.getD q 0 ≠ -1)
theorem NxQ_uniq {ps : List Int} {last n n' : Int} (h : NxQ ps last n) (h' : NxQ ps last n') : n = n' := by
  rcases h with ⟨h1, h2⟩ | ⟨j, h1, h2, h3, h4, h5⟩ <;> rcases h' with ⟨g1, g2⟩ | ⟨k, g1, g2, g3, g4, g5⟩
  · rw [h1, g1]
  · exact absurd g4 (h2 k (by omega) g3)
  · exact absurd h4 (g2 j (by omega) h3)
  · rcases Nat.lt_trichotomy j k with hlt | he | hlt
    · exact absurd h4 (g5 j (by omega) hlt)
    · rw [h1, g1, he]
    · exact absurd g4 (h5 k (by omega) hlt)

theorem s_znext (ps es : List Int) (last used : Int) (hT : ZT ps es last used) : Spec prog 52 [.ptr 0 0] (VH R ps es last used) (fun r H => ∃ n, NxQ ps last n ∧ r = .int .i64 n ∧ H = VH R ps es last used) := by
  refine Spec_of_kX (D := fun i => (0, [])) (ks := [0, 2, 3]) tok mixed (fn := f52) rfl rfl rfl (by kernel_rfl) (N := 25) rfl (rs := [.tmp 2]) rfl (Nat.le_of_ble_eq_true rfl) fun A C Kp E ag L q hA hC hK hE hag hL hq => ?_
  rw [← hA]
  cbv
  refine call_zok hC hA hT (TV.vws hA hT rfl rfl rfl rfl) ?_
  cbv
  have hnt : A.not true = false := by rw [notA hA]; rfl
  simp only [hnt]
  cbv
  have hpl := hT.pl
  have hla := hT.la
  have e1 : A.bin .add .i64 last 1 = last + 1 := by rw [addA hA, wrap64 (by omega)]
  simp only [e1]
  rw [hL]
  refine loop_keep (fun kk s => ∃ (i : Int) (j : Nat), i = (j : Int) ∧ last < i ∧ j ≤ 8192 ∧ (∀ q : Nat, last < (q : Int) → q < j → ps.getD q 0 ≠ -1) ∧ kk = 8192 - j ∧ s = ⟨[(0, .ptr 0 0), (2, .int .i64 0), (3, .int .i64 i)], VH A ps es last used⟩)
    [0, 2, 3] (8192 - (last.toNat + 1)) ⟨last + 1, last.toNat + 1, by omega, by omega, by omega, fun q h1 h2 => by omega, rfl, rfl⟩ ?_
  rintro kk _ ⟨i, j, hi, hli, hj, hno, hkk, rfl⟩
  cbv
  (try simp only [ncast] at *)
  refine ifB_intro (fun h => ?_) (fun h => ?_)
  · have hlt := h
    (try simp only [natA hA, lssA hA, leqA hA, gtrA hA, geqA hA, eqlA hA, neqA hA, notA hA, beqA hA, decide_eq_true_eq, decide_eq_false_iff_not, beq_iff_eq, beq_eq_false_iff_ne, bne_iff_ne, bne_eq_false_iff_eq, Bool.not_eq_true', Bool.not_eq_false', ncast, Int.not_lt, Int.not_le, ne_eq, not_true_eq_false, not_false_eq_true, false_or, true_and] at hlt)
    (try rw [h]); clear h
    cbv
    (try simp only [ncast] at *)
    refine rdA hA (by omega) (by omega) fun x hx => ?_
    rw [show 0 + i.toNat = j by omega] at hx
    cbv
    (try simp only [ncast] at *)
    refine ifB_intro (fun h => ?_) (fun h => ?_)
    · have hfree := h
      (try simp only [natA hA, lssA hA, leqA hA, gtrA hA, geqA hA, eqlA hA, neqA hA, notA hA, beqA hA, decide_eq_true_eq, decide_eq_false_iff_not, beq_iff_eq, beq_eq_false_iff_ne, bne_iff_ne, bne_eq_false_iff_eq, Bool.not_eq_true', Bool.not_eq_false', ncast, Int.not_lt, Int.not_le, ne_eq, not_true_eq_false, not_false_eq_true, false_or, true_and] at hfree)
      (try rw [h]); clear h
      cbv
      (try simp only [ncast] at *)
      subst hA hq
      exact ⟨i, .inr ⟨j, hi, hli, by omega, by rw [← hx]; exact hfree, hno⟩, rfl, rfl⟩
    · have hfull := h
      (try simp only [natA hA, lssA hA, leqA hA, gtrA hA, geqA hA, eqlA hA, neqA hA, notA hA, beqA hA, decide_eq_true_eq, decide_eq_false_iff_not, beq_iff_eq, beq_eq_false_iff_ne, bne_iff_ne, bne_eq_false_iff_eq, Bool.not_eq_true', Bool.not_eq_false', ncast, Int.not_lt, Int.not_le, ne_eq, not_true_eq_false, not_false_eq_true, false_or, true_and] at hfull)
      (try rw [h]); clear h
      cbv
      (try simp only [ncast] at *)
      have e2 : A.bin .add .i64 i 1 = i + 1 := by rw [addA hA, wrap64 (by omega)]
      simp only [e2]
      subst hag
      refine ⟨8192 - (j + 1), ⟨[(0, .ptr 0 0), (2, .int .i64 0), (3, .int .i64 (i + 1))], VH A ps es last used⟩, by omega, ?_, i + 1, j + 1, by omega, by omega, by omega, ?_, rfl, rfl⟩
      · subst hA
        unfold VH
        exact Sub_of [0, 1, 2, 3] (by simp [sigOk, ndG]) (by simp) (by repeat' (first | exact trivial | exact fun _ => rfl | exact fun h => absurd h (by simp) | exact subC_ints rfl | refine And.intro ?_ ?_ | rfl | (simp [subH_nil, hLts, hLt, renCk, renC, sg, Ck.cells, R_ints_ren, R_ints_hLts]; done))) (by repeat' (first | exact trivial | exact .inr ⟨trivial, rfl⟩ | exact .inr ⟨by simp [vOk, hLt, hLts], rfl⟩ | refine And.intro ?_ ?_))
      · intro q q1 q2
        by_cases hq2 : q = j
        · subst hq2; rw [← hx]; exact hfull
        · exact hno q q1 (by omega)
  · have hge := h
    (try simp only [natA hA, lssA hA, leqA hA, gtrA hA, geqA hA, eqlA hA, neqA hA, notA hA, beqA hA, decide_eq_true_eq, decide_eq_false_iff_not, beq_iff_eq, beq_eq_false_iff_ne, bne_iff_ne, bne_eq_false_iff_eq, Bool.not_eq_true', Bool.not_eq_false', ncast, Int.not_lt, Int.not_le, ne_eq, not_true_eq_false, not_false_eq_true, false_or, true_and] at hge)
    (try rw [h]); clear h
    cbv
    (try simp only [ncast] at *)
    subst hA hq
    exact ⟨-1, .inl ⟨rfl, fun q q1 q2 => hno q q1 (by omega)⟩, rfl, rfl⟩

section
variable {A : Ar} {C : CallT} {s : St} {κ : List Nat → SV → List Ck → Prop} {h0 h1 h2 h3 : Nat} {ps es : List Int} {last used : Int}
theorem call_znext (hC : C = CallX prog) (hA : A = R) (hT : ZT ps es last used) (k : TV A s.H h0 h1 h2 h3 ps es last used) (hk : ∀ n, NxQ ps last n → κ [] (.int .i64 n) s.H) : C 52 [.ptr h0 0] s κ := by
  refine cal_of hC (s_znext ps es last used hT) [(h0, 0, false), (h1, 0, false), (h2, 0, false), (h3, 0, false)] ?_ (matchV hA k hT) ⟨⟨(show 0 < 4 by omega), trivial, rfl⟩, trivial⟩ ?_
  · simp [lkOk]
  rintro _ _ ⟨n, h, rfl, rfl⟩
  refine ⟨[], .int .i64 n, s.H, rfl, rfl, ?_, hk n h⟩
  simp [backH, setAll, VH]
end

/-- A code's link. -/
def hasL (ps : List Int) (code : Int) : Prop := 256 < code ∧ code < 8192 ∧ ps.getD code.toNat 0 ≠ -1
def LkQ (ps es : List Int) (code p c : Int) (b : Bool) : Prop := (hasL ps code ∧ b = true ∧ p = ps.getD code.toNat 0 ∧ c = es.getD code.toNat 0) ∨ (¬ hasL ps code ∧ b = false ∧ p = 0 ∧ c = 0)
section
variable {A : Ar} {C : CallT} {s : St} {κ : List Nat → SV → List Ck → Prop} {h0 h1 h2 h3 : Nat} {ps es : List Int} {last used : Int}
end

/-- A table of which the children are one's own. -/
def CH (A : Ar) (ps es : List Int) (m : List Int → Option Int) (last used : Int) : List Ck :=
  [.vw [.lst 1 8192, .lst 2 8192, .mapv 3, .int .i64 last, .int .i64 used], .vw (A.ints .i64 ps), .vw (A.ints .u8 es), .mp [.i64, .u8] m]
theorem s_zchild (ps es : List Int) (m : List Int → Option Int) (last used p c : Int) (hT : ZT ps es last used) : Spec prog 57 [.ptr 0 0, .int .i64 p, .int .u8 c] (CH R ps es m last used) (fun r H => r = .int .i64 ((m [p, c]).getD (-1)) ∧ H = CH R ps es m last used) := by
  refine Spec_of_kX (D := fun i => (0, [])) (ks := [0, 1, 2, 6, 7, 8]) tok mixed (fn := f57) rfl rfl rfl (by kernel_rfl) (N := 26) rfl (rs := [.tmp 6]) rfl (Nat.le_of_ble_eq_true rfl) fun A C Kp E ag L q hA hC hK hE hag hL hq => ?_
  rw [← hA]
  cbv
  refine call_zok hC hA hT (TV.vws hA hT rfl rfl rfl rfl) ?_
  cbv
  have hnt : A.not true = false := by rw [notA hA]; rfl
  have hnf : A.not false = true := by rw [notA hA]; rfl
  simp only [hnt]
  cbv
  refine hk_look hE mapL keyL (h := 3) (m := m) (key := [p, c]) _ _ rfl (by kernel_rfl) rfl rfl rfl rfl fun b v hb hv => ?_
  cbv
  cases b with
  | true =>
    simp only [hnt]
    cbv
    have e : (m [p, c]).getD (-1) = v := by
      cases hm : m [p, c] with
      | none => rw [hm] at hb; cases hb
      | some x => rw [hv, hm]; rfl
    subst hA hq
    exact ⟨by rw [e], rfl⟩
  | false =>
    simp only [hnf]
    cbv
    have e : (m [p, c]).getD (-1) = -1 := by
      cases hm : m [p, c] with
      | none => rfl
      | some x => rw [hm] at hb; cases hb
    subst hA hq
    exact ⟨by rw [e], rfl⟩

/-- Where a table stands, its children one's own. -/
theorem call_zchild {A : Ar} {C : CallT} {s : St} {κ : List Nat → SV → List Ck → Prop} {h0 h1 h2 h3 : Nat} {ps es : List Int} {m : List Int → Option Int} {last used p c : Int} (hC : C = CallX prog) (hA : A = R) (hT : ZT ps es last used) (k : TV A s.H h0 h1 h2 h3 ps es last used) (k3 : s.H[h3]? = some (.mp [.i64, .u8] m))
    (hne : h3 ≠ h0 ∧ h3 ≠ h1 ∧ h3 ≠ h2) (hk : κ [h3] (.int .i64 ((m [p, c]).getD (-1))) (set1 s.H h3 (.mp [.i64, .u8] m))) : C 57 [.ptr h0 0, .int .i64 p, .int .u8 c] s κ := by
  refine cal_of hC (s_zchild ps es m last used p c hT) [(h0, 0, false), (h1, 0, false), (h2, 0, false), (h3, 0, true)] ?_ ?_ ⟨⟨(show 0 < 4 by omega), trivial, rfl⟩, ⟨trivial, trivial, rfl⟩, ⟨trivial, trivial, rfl⟩, trivial⟩ ?_
  · simp [lkOk]
    omega
  · refine ⟨⟨(show 1 < 4 by omega), (show 2 < 4 by omega), (show 3 < 4 by omega), trivial, trivial, trivial⟩, ⟨rfl, rfl, trivial, trivial, trivial, trivial⟩, k.c0, hLtsA rfl .., zOksA rfl .., ?_, hLtsA rfl .., zOksA rfl .., ?_, rfl, trivial, trivial, k3, trivial⟩
    · rw [renA rfl, A_ints_len rfl, hT.pl, ← hA]; exact k.c1
    · rw [renA rfl, A_ints_len rfl, hT.el, ← hA]; exact k.c2
  rintro _ _ ⟨rfl, rfl⟩
  refine ⟨[h3], .int .i64 ((m [p, c]).getD (-1)), s.H.set h3 (.mp [.i64, .u8] m), rfl, rfl, ?_, ?_⟩
  · simp [backH, setAll, CH, renCk, renC]
  · rw [set1_eq] at hk
    exact hk
end Go.Sx

/- lzw: Add. -/
set_option maxRecDepth 100000
set_option maxHeartbeats 4000000
set_option linter.unusedVariables false
set_option linter.unusedSimpArgs false
namespace Go.Sx
open Go.Proofs.Try

def AddQ (ps es : List Int) (m : List Int → Option Int) (last used p c n : Int) (ps' es' : List Int) (m' : List Int → Option Int) (last' used' : Int) : Prop :=
  (n = -1 ∧ (NxQ ps last (-1) ∨ p < 0 ∨ 8192 ≤ p ∨ p = 256) ∧ ps' = ps ∧ es' = es ∧ m' = m ∧ last' = last ∧ used' = used) ∨
  (NxQ ps last n ∧ 0 ≤ n ∧ 0 ≤ p ∧ p < 8192 ∧ p ≠ 256 ∧ ps' = ps.set n.toNat p ∧ es' = es.set n.toNat c ∧ last' = n ∧ used' = used + 1 ∧
    ((m [p, c] = none ∨ (∃ v, m [p, c] = some v ∧ n < v)) ∧ (∀ k, m' k = if k = [p, c] then some n else m k) ∨ (∃ v, m [p, c] = some v ∧ v ≤ n) ∧ m' = m))

theorem s_zadd (ps es : List Int) (m : List Int → Option Int) (last used p c : Int) (hT : ZT ps es last used) :
    Spec prog 39 [.ptr 0 0, .int .i64 p, .int .u8 c] (TbH R ps es m last used) (fun r H => ∃ n ps' es' m' last' used', AddQ ps es m last used p c n ps' es' m' last' used' ∧ r = .int .i64 n ∧ H = TbH R ps' es' m' last' used') := by
  refine Spec_of_kF (D := fun i => if i = 4 then (18, [1,2]) else if i = 7 then (10, []) else if i = 9 then (6, []) else (0, [])) (ks := [0, 1, 2, 6, 7, 8, 9, 10]) tok mixed (fn := f39) rfl rfl rfl (by kernel_rfl) (N := 78) rfl (rs := [.tmp 6]) rfl (Nat.le_of_ble_eq_true rfl) fun A C Kp E ag L q hA hC hK hE hag hL hq => ?_
  rw [← hA]
  cbv
  refine call_znext hC hA hT (TO.tv hA hT ⟨rfl, rfl, rfl, rfl⟩) fun n hn => ?_
  cbv
  have hpl := hT.pl
  have hel := hT.el
  have hus := hT.us
  have hnt : A.not true = false := by rw [notA hA]; rfl
  have hnf : A.not false = true := by rw [notA hA]; rfl
  refine ifB_intro (fun h => ?_) (fun h => ?_)
  · have h1 := h
    (try simp only [natA hA, lssA hA, leqA hA, gtrA hA, geqA hA, eqlA hA, neqA hA, notA hA, beqA hA, decide_eq_true_eq, decide_eq_false_iff_not, beq_iff_eq, beq_eq_false_iff_ne, bne_iff_ne, bne_eq_false_iff_eq, Bool.not_eq_true', Bool.not_eq_false', ncast, Int.not_lt, Int.not_le, ne_eq, not_true_eq_false, not_false_eq_true, false_or, true_and] at h1)
    (try rw [h]); clear h
    cbv
    (try simp only [ncast] at *)
    have hn1 : n = -1 := by
      rcases hn with ⟨h, _⟩ | ⟨j, h, h2, _⟩
      · exact h
      · omega
    rw [hn1] at hn
    subst hA hq
    refine Fin_of ⟨[(6, .int .i64 (-1))], TbH R ps es m last used⟩ ?_ ⟨-1, ps, es, m, last, used, .inl ⟨rfl, (.inl hn), rfl, rfl, rfl, rfl, rfl⟩, rfl, rfl⟩
    unfold TbH
    exact Sub_of [0, 1, 2, 3] (by simp [sigOk, ndG]) (by simp) (by repeat' (first | exact trivial | exact fun _ => rfl | exact fun h => absurd h (by simp) | exact subC_ints rfl | refine And.intro ?_ ?_ | rfl | (simp [subH_nil, hLts, hLt, renCk, renC, sg, Ck.cells, R_ints_ren, R_ints_hLts]; done))) (by repeat' (first | exact trivial | exact .inr ⟨trivial, rfl⟩ | exact .inr ⟨by simp [vOk, hLt, hLts], rfl⟩ | refine And.intro ?_ ?_))
  · have h1 := h
    (try simp only [natA hA, lssA hA, leqA hA, gtrA hA, geqA hA, eqlA hA, neqA hA, notA hA, beqA hA, decide_eq_true_eq, decide_eq_false_iff_not, beq_iff_eq, beq_eq_false_iff_ne, bne_iff_ne, bne_eq_false_iff_eq, Bool.not_eq_true', Bool.not_eq_false', ncast, Int.not_lt, Int.not_le, ne_eq, not_true_eq_false, not_false_eq_true, false_or, true_and] at h1)
    (try rw [h]); clear h
    cbv
    (try simp only [ncast] at *)
    refine ifB_intro (fun h => ?_) (fun h => ?_)
    · have h2 := h
      (try simp only [natA hA, lssA hA, leqA hA, gtrA hA, geqA hA, eqlA hA, neqA hA, notA hA, beqA hA, decide_eq_true_eq, decide_eq_false_iff_not, beq_iff_eq, beq_eq_false_iff_ne, bne_iff_ne, bne_eq_false_iff_eq, Bool.not_eq_true', Bool.not_eq_false', ncast, Int.not_lt, Int.not_le, ne_eq, not_true_eq_false, not_false_eq_true, false_or, true_and] at h2)
      (try rw [h]); clear h
      cbv
      (try simp only [ncast] at *)
      subst hA hq
      refine Fin_of ⟨[(6, .int .i64 (-1))], TbH R ps es m last used⟩ ?_ ⟨-1, ps, es, m, last, used, .inl ⟨rfl, (.inr (.inl (by omega))), rfl, rfl, rfl, rfl, rfl⟩, rfl, rfl⟩
      unfold TbH
      exact Sub_of [0, 1, 2, 3] (by simp [sigOk, ndG]) (by simp) (by repeat' (first | exact trivial | exact fun _ => rfl | exact fun h => absurd h (by simp) | exact subC_ints rfl | refine And.intro ?_ ?_ | rfl | (simp [subH_nil, hLts, hLt, renCk, renC, sg, Ck.cells, R_ints_ren, R_ints_hLts]; done))) (by repeat' (first | exact trivial | exact .inr ⟨trivial, rfl⟩ | exact .inr ⟨by simp [vOk, hLt, hLts], rfl⟩ | refine And.intro ?_ ?_))
    · have h2 := h
      (try simp only [natA hA, lssA hA, leqA hA, gtrA hA, geqA hA, eqlA hA, neqA hA, notA hA, beqA hA, decide_eq_true_eq, decide_eq_false_iff_not, beq_iff_eq, beq_eq_false_iff_ne, bne_iff_ne, bne_eq_false_iff_eq, Bool.not_eq_true', Bool.not_eq_false', ncast, Int.not_lt, Int.not_le, ne_eq, not_true_eq_false, not_false_eq_true, false_or, true_and] at h2)
      (try rw [h]); clear h
      cbv
      (try simp only [ncast] at *)
      refine ifB_intro (fun h => ?_) (fun h => ?_)
      · have h3 := h
        (try simp only [natA hA, lssA hA, leqA hA, gtrA hA, geqA hA, eqlA hA, neqA hA, notA hA, beqA hA, decide_eq_true_eq, decide_eq_false_iff_not, beq_iff_eq, beq_eq_false_iff_ne, bne_iff_ne, bne_eq_false_iff_eq, Bool.not_eq_true', Bool.not_eq_false', ncast, Int.not_lt, Int.not_le, ne_eq, not_true_eq_false, not_false_eq_true, false_or, true_and] at h3)
        (try rw [h]); clear h
        cbv
        (try simp only [ncast] at *)
        subst hA hq
        refine Fin_of ⟨[(6, .int .i64 (-1))], TbH R ps es m last used⟩ ?_ ⟨-1, ps, es, m, last, used, .inl ⟨rfl, (.inr (.inr (.inl (by omega)))), rfl, rfl, rfl, rfl, rfl⟩, rfl, rfl⟩
        unfold TbH
        exact Sub_of [0, 1, 2, 3] (by simp [sigOk, ndG]) (by simp) (by repeat' (first | exact trivial | exact fun _ => rfl | exact fun h => absurd h (by simp) | exact subC_ints rfl | refine And.intro ?_ ?_ | rfl | (simp [subH_nil, hLts, hLt, renCk, renC, sg, Ck.cells, R_ints_ren, R_ints_hLts]; done))) (by repeat' (first | exact trivial | exact .inr ⟨trivial, rfl⟩ | exact .inr ⟨by simp [vOk, hLt, hLts], rfl⟩ | refine And.intro ?_ ?_))
      · have h3 := h
        (try simp only [natA hA, lssA hA, leqA hA, gtrA hA, geqA hA, eqlA hA, neqA hA, notA hA, beqA hA, decide_eq_true_eq, decide_eq_false_iff_not, beq_iff_eq, beq_eq_false_iff_ne, bne_iff_ne, bne_eq_false_iff_eq, Bool.not_eq_true', Bool.not_eq_false', ncast, Int.not_lt, Int.not_le, ne_eq, not_true_eq_false, not_false_eq_true, false_or, true_and] at h3)
        (try rw [h]); clear h
        cbv
        (try simp only [ncast] at *)
        refine ifB_intro (fun h => ?_) (fun h => ?_)
        · have h4 := h
          (try simp only [natA hA, lssA hA, leqA hA, gtrA hA, geqA hA, eqlA hA, neqA hA, notA hA, beqA hA, decide_eq_true_eq, decide_eq_false_iff_not, beq_iff_eq, beq_eq_false_iff_ne, bne_iff_ne, bne_eq_false_iff_eq, Bool.not_eq_true', Bool.not_eq_false', ncast, Int.not_lt, Int.not_le, ne_eq, not_true_eq_false, not_false_eq_true, false_or, true_and] at h4)
          (try rw [h]); clear h
          cbv
          (try simp only [ncast] at *)
          subst hA hq
          refine Fin_of ⟨[(6, .int .i64 (-1))], TbH R ps es m last used⟩ ?_ ⟨-1, ps, es, m, last, used, .inl ⟨rfl, (.inr (.inr (.inr (by omega)))), rfl, rfl, rfl, rfl, rfl⟩, rfl, rfl⟩
          unfold TbH
          exact Sub_of [0, 1, 2, 3] (by simp [sigOk, ndG]) (by simp) (by repeat' (first | exact trivial | exact fun _ => rfl | exact fun h => absurd h (by simp) | exact subC_ints rfl | refine And.intro ?_ ?_ | rfl | (simp [subH_nil, hLts, hLt, renCk, renC, sg, Ck.cells, R_ints_ren, R_ints_hLts]; done))) (by repeat' (first | exact trivial | exact .inr ⟨trivial, rfl⟩ | exact .inr ⟨by simp [vOk, hLt, hLts], rfl⟩ | refine And.intro ?_ ?_))
        · have h4 := h
          (try simp only [natA hA, lssA hA, leqA hA, gtrA hA, geqA hA, eqlA hA, neqA hA, notA hA, beqA hA, decide_eq_true_eq, decide_eq_false_iff_not, beq_iff_eq, beq_eq_false_iff_ne, bne_iff_ne, bne_eq_false_iff_eq, Bool.not_eq_true', Bool.not_eq_false', ncast, Int.not_lt, Int.not_le, ne_eq, not_true_eq_false, not_false_eq_true, false_or, true_and] at h4)
          (try rw [h]); clear h
          cbv
          (try simp only [ncast] at *)
          have hn8 : n < 8192 := by
            rcases hn with ⟨h, _⟩ | ⟨j, h, h2, h3, _⟩ <;> omega
          refine wrA hA (by (first | omega | (try simp only [natA hA, lssA hA, leqA hA, gtrA hA, geqA hA, eqlA hA, neqA hA, notA hA, beqA hA, decide_eq_true_eq, decide_eq_false_iff_not, beq_iff_eq, beq_eq_false_iff_ne, bne_iff_ne, bne_eq_false_iff_eq, Bool.not_eq_true', Bool.not_eq_false', ncast, Int.not_lt, Int.not_le, ne_eq, not_true_eq_false, not_false_eq_true, false_or, true_and, addA hA, subA' hA, inrA hA, ge0A hA, ne0A hA, leIA hA, ixA hA, cntA hA, addNA hA, tnA hA, posA hA, Go.IntKind.wrap_i64] at *) <;> omega | (try simp only [decide_eq_true_eq, decide_eq_false_iff_not, beq_iff_eq, beq_eq_false_iff_ne, bne_iff_ne, bne_eq_false_iff_eq, Bool.not_eq_true', Bool.not_eq_false', ncast, Int.not_lt, Int.not_le, ne_eq, not_true_eq_false, not_false_eq_true, false_or, true_and, Go.IntKind.wrap_i64] at *) <;> omega)) (by (first | omega | (try simp only [natA hA, lssA hA, leqA hA, gtrA hA, geqA hA, eqlA hA, neqA hA, notA hA, beqA hA, decide_eq_true_eq, decide_eq_false_iff_not, beq_iff_eq, beq_eq_false_iff_ne, bne_iff_ne, bne_eq_false_iff_eq, Bool.not_eq_true', Bool.not_eq_false', ncast, Int.not_lt, Int.not_le, ne_eq, not_true_eq_false, not_false_eq_true, false_or, true_and, addA hA, subA' hA, inrA hA, ge0A hA, ne0A hA, leIA hA, ixA hA, cntA hA, addNA hA, tnA hA, posA hA, Go.IntKind.wrap_i64] at *) <;> omega | (try simp only [decide_eq_true_eq, decide_eq_false_iff_not, beq_iff_eq, beq_eq_false_iff_ne, bne_iff_ne, bne_eq_false_iff_eq, Bool.not_eq_true', Bool.not_eq_false', ncast, Int.not_lt, Int.not_le, ne_eq, not_true_eq_false, not_false_eq_true, false_or, true_and, Go.IntKind.wrap_i64] at *) <;> omega)) fun ys hys => ?_
          cbv
          (try simp only [ncast] at *)
          refine wrA hA (by (first | omega | (try simp only [natA hA, lssA hA, leqA hA, gtrA hA, geqA hA, eqlA hA, neqA hA, notA hA, beqA hA, decide_eq_true_eq, decide_eq_false_iff_not, beq_iff_eq, beq_eq_false_iff_ne, bne_iff_ne, bne_eq_false_iff_eq, Bool.not_eq_true', Bool.not_eq_false', ncast, Int.not_lt, Int.not_le, ne_eq, not_true_eq_false, not_false_eq_true, false_or, true_and, addA hA, subA' hA, inrA hA, ge0A hA, ne0A hA, leIA hA, ixA hA, cntA hA, addNA hA, tnA hA, posA hA, Go.IntKind.wrap_i64] at *) <;> omega | (try simp only [decide_eq_true_eq, decide_eq_false_iff_not, beq_iff_eq, beq_eq_false_iff_ne, bne_iff_ne, bne_eq_false_iff_eq, Bool.not_eq_true', Bool.not_eq_false', ncast, Int.not_lt, Int.not_le, ne_eq, not_true_eq_false, not_false_eq_true, false_or, true_and, Go.IntKind.wrap_i64] at *) <;> omega)) (by (first | omega | (try simp only [natA hA, lssA hA, leqA hA, gtrA hA, geqA hA, eqlA hA, neqA hA, notA hA, beqA hA, decide_eq_true_eq, decide_eq_false_iff_not, beq_iff_eq, beq_eq_false_iff_ne, bne_iff_ne, bne_eq_false_iff_eq, Bool.not_eq_true', Bool.not_eq_false', ncast, Int.not_lt, Int.not_le, ne_eq, not_true_eq_false, not_false_eq_true, false_or, true_and, addA hA, subA' hA, inrA hA, ge0A hA, ne0A hA, leIA hA, ixA hA, cntA hA, addNA hA, tnA hA, posA hA, Go.IntKind.wrap_i64] at *) <;> omega | (try simp only [decide_eq_true_eq, decide_eq_false_iff_not, beq_iff_eq, beq_eq_false_iff_ne, bne_iff_ne, bne_eq_false_iff_eq, Bool.not_eq_true', Bool.not_eq_false', ncast, Int.not_lt, Int.not_le, ne_eq, not_true_eq_false, not_false_eq_true, false_or, true_and, Go.IntKind.wrap_i64] at *) <;> omega)) fun zs hzs => ?_
          cbv
          (try simp only [ncast] at *)
          obtain ⟨u1, hu1⟩ : ∃ u1, u1 = used + 1 := ⟨_, rfl⟩
          have e1 : A.bin .add .i64 used 1 = u1 := by rw [addA hA, wrap64 (by omega), hu1]
          simp only [e1]
          rw [show 0 + n.toNat = n.toNat by omega] at hys hzs
          refine hk_look hE mapL keyL (h := 3) (m := m) (key := [p, c]) _ _ rfl (by kernel_rfl) rfl rfl rfl rfl fun b v hb hv => ?_
          cbv
          cases b with
          | false =>
            simp only [hnf]
            cbv
            have hno : m [p, c] = none := by
              cases hm : m [p, c] with
              | none => rfl
              | some x => rw [hm] at hb; cases hb
            refine hk_mput hE mapL keyL (h := 3) (m := m) (key := [p, c]) _ _ _ rfl rfl rfl rfl rfl rfl fun m' hm' => ?_
            cbv
            have hvv : m [p, c] = none ∨ ∃ v, m [p, c] = some v ∧ n < v := (.inl hno)
            subst hA hq
            refine Fin_of ⟨[(6, .int .i64 n)], TbH R ys zs m' n u1⟩ ?_ ⟨n, ys, zs, m', n, u1, .inr ⟨hn, h1, h2, h3, h4, hys, hzs, rfl, hu1, (.inl ⟨hvv, hm'⟩)⟩, rfl, rfl⟩
            unfold TbH
            exact Sub_of [0, 1, 2, 3] (by simp [sigOk, ndG]) (by simp) (by repeat' (first | exact trivial | exact fun _ => rfl | exact fun h => absurd h (by simp) | exact subC_ints rfl | refine And.intro ?_ ?_ | rfl | (simp [subH_nil, hLts, hLt, renCk, renC, sg, Ck.cells, R_ints_ren, R_ints_hLts]; done))) (by repeat' (first | exact trivial | exact .inr ⟨trivial, rfl⟩ | exact .inr ⟨by simp [vOk, hLt, hLts], rfl⟩ | refine And.intro ?_ ?_))
          | true =>
            simp only [hnt]
            cbv
            have hso : m [p, c] = some v := by
              cases hm : m [p, c] with
              | none => rw [hm] at hb; cases hb
              | some x => rw [hv, hm]; rfl
            refine ifB_intro (fun h => ?_) (fun h => ?_)
            · have hlt := h
              (try simp only [natA hA, lssA hA, leqA hA, gtrA hA, geqA hA, eqlA hA, neqA hA, notA hA, beqA hA, decide_eq_true_eq, decide_eq_false_iff_not, beq_iff_eq, beq_eq_false_iff_ne, bne_iff_ne, bne_eq_false_iff_eq, Bool.not_eq_true', Bool.not_eq_false', ncast, Int.not_lt, Int.not_le, ne_eq, not_true_eq_false, not_false_eq_true, false_or, true_and] at hlt)
              (try rw [h]); clear h
              cbv
              (try simp only [ncast] at *)
              refine hk_mput hE mapL keyL (h := 3) (m := m) (key := [p, c]) _ _ _ rfl rfl rfl rfl rfl rfl fun m' hm' => ?_
              cbv
              have hvv : m [p, c] = none ∨ ∃ v, m [p, c] = some v ∧ n < v := (.inr ⟨v, hso, hlt⟩)
              subst hA hq
              refine Fin_of ⟨[(6, .int .i64 n)], TbH R ys zs m' n u1⟩ ?_ ⟨n, ys, zs, m', n, u1, .inr ⟨hn, h1, h2, h3, h4, hys, hzs, rfl, hu1, (.inl ⟨hvv, hm'⟩)⟩, rfl, rfl⟩
              unfold TbH
              exact Sub_of [0, 1, 2, 3] (by simp [sigOk, ndG]) (by simp) (by repeat' (first | exact trivial | exact fun _ => rfl | exact fun h => absurd h (by simp) | exact subC_ints rfl | refine And.intro ?_ ?_ | rfl | (simp [subH_nil, hLts, hLt, renCk, renC, sg, Ck.cells, R_ints_ren, R_ints_hLts]; done))) (by repeat' (first | exact trivial | exact .inr ⟨trivial, rfl⟩ | exact .inr ⟨by simp [vOk, hLt, hLts], rfl⟩ | refine And.intro ?_ ?_))
            · have hge := h
              (try simp only [natA hA, lssA hA, leqA hA, gtrA hA, geqA hA, eqlA hA, neqA hA, notA hA, beqA hA, decide_eq_true_eq, decide_eq_false_iff_not, beq_iff_eq, beq_eq_false_iff_ne, bne_iff_ne, bne_eq_false_iff_eq, Bool.not_eq_true', Bool.not_eq_false', ncast, Int.not_lt, Int.not_le, ne_eq, not_true_eq_false, not_false_eq_true, false_or, true_and] at hge)
              (try rw [h]); clear h
              cbv
              (try simp only [ncast] at *)
              subst hA hq
              refine Fin_of ⟨[(6, .int .i64 n)], TbH R ys zs m n u1⟩ ?_ ⟨n, ys, zs, m, n, u1, .inr ⟨hn, h1, h2, h3, h4, hys, hzs, rfl, hu1, (.inr ⟨⟨v, hso, hge⟩, rfl⟩)⟩, rfl, rfl⟩
              unfold TbH
              exact Sub_of [0, 1, 2, 3] (by simp [sigOk, ndG]) (by simp) (by repeat' (first | exact trivial | exact fun _ => rfl | exact fun h => absurd h (by simp) | exact subC_ints rfl | refine And.intro ?_ ?_ | rfl | (simp [subH_nil, hLts, hLt, renCk, renC, sg, Ck.cells, R_ints_ren, R_ints_hLts]; done))) (by repeat' (first | exact trivial | exact .inr ⟨trivial, rfl⟩ | exact .inr ⟨by simp [vOk, hLt, hLts], rfl⟩ | refine And.intro ?_ ?_))
end Go.Sx

/- lzw: Clear. -/
set_option maxRecDepth 100000
set_option maxHeartbeats 4000000
set_option linter.unusedVariables false
set_option linter.unusedSimpArgs false
namespace Go.Sx
open Go.Proofs.Try

/-- Somebody's parent. -/
def isP (ps : List Int) (q : Nat) : Prop := ∃ k, k < 8192 ∧ ps.getD k 0 = (q : Int)
/-- Stays. -/
def kept (ps : List Int) (q : Nat) : Prop := ps.getD q 0 ≠ -1 ∧ isP ps q
def cnt (ps : List Int) : Int := (ps.countP (· != -1) : Nat)
theorem cnt_bnd {ps : List Int} (h : ps.length = 8192) : 0 ≤ cnt ps ∧ cnt ps ≤ 8192 := by
  have := List.countP_le_length (l := ps) (p := (· != -1))
  unfold cnt
  omega
/-- The least of those above i. -/
def LeastQ (ps es : List Int) (P : Nat → Prop) (i : Nat) (k : List Int) (o : Option Int) : Prop :=
  (o = none ∧ ∀ q, i < q → q < 8192 → P q → [ps.getD q 0, es.getD q 0] ≠ k) ∨
  (∃ q : Nat, i < q ∧ q < 8192 ∧ P q ∧ [ps.getD q 0, es.getD q 0] = k ∧ o = some (q : Int) ∧ ∀ r, i < r → r < q → P r → [ps.getD r 0, es.getD r 0] ≠ k)
/-- Parents when those above i have been gone through. -/
def ClP (ps : List Int) (i : Nat) (ps' : List Int) : Prop := ps'.length = 8192 ∧ ∀ q, q < 8192 → (kept ps q ∨ q ≤ i → ps'.getD q 0 = ps.getD q 0) ∧ (¬ (kept ps q ∨ q ≤ i) → ps'.getD q 0 = -1)
def ClrQ (ps es : List Int) (used : Int) (ps' : List Int) (m' : List Int → Option Int) (used' : Int) : Prop :=
  ClP ps 256 ps' ∧ used' - cnt ps' = used - cnt ps ∧ ∀ k, LeastQ ps es (kept ps) 256 k (m' k)
/-- Who is somebody's parent. -/
def HsQ (ps : List Int) (j : Nat) (hs : List Int) : Prop := hs.length = 8192 ∧ ∀ q, q < 8192 → (hs.getD q 0 ≠ 0 ↔ ∃ k, k < j ∧ ps.getD k 0 = (q : Int))

theorem HsQ_skip {ps hs : List Int} {j : Nat} (h : HsQ ps j hs) (hx : ps.getD j 0 = -1) : HsQ ps (j + 1) hs := by
  refine ⟨h.1, fun q hq => (h.2 q hq).trans ⟨fun ⟨k, h1, h2⟩ => ⟨k, by omega, h2⟩, fun ⟨k, h1, h2⟩ => ⟨k, ?_, h2⟩⟩⟩
  rcases Nat.lt_or_ge k j with h3 | h3
  · exact h3
  · rw [show k = j by omega] at h2
    omega
theorem HsQ_put {ps hs : List Int} {j : Nat} {x : Int} (h : HsQ ps j hs) (hx : x = ps.getD j 0) (h0 : 0 ≤ x ∧ x < 8192) : HsQ ps (j + 1) (hs.set x.toNat 1) := by
  refine ⟨by rw [List.length_set]; exact h.1, fun q hq => ?_⟩
  rw [List.getD, List.getElem?_set]
  by_cases hqx : x.toNat = q
  · rw [if_pos hqx, if_pos (by rw [h.1]; omega)]
    exact ⟨fun _ => ⟨j, by omega, by rw [← hx]; omega⟩, fun _ => by simp⟩
  · rw [if_neg hqx, ← List.getD]
    refine (h.2 q hq).trans ⟨fun ⟨k, h1, h2⟩ => ⟨k, by omega, h2⟩, fun ⟨k, h1, h2⟩ => ⟨k, ?_, h2⟩⟩
    rcases Nat.lt_or_ge k j with h3 | h3
    · exact h3
    · rw [show k = j by omega, ← hx] at h2
      omega

theorem cnt_set {ps : List Int} {i : Nat} (hi : i < ps.length) (v : Int) : cnt (ps.set i v) = cnt ps - (if ps.getD i 0 = -1 then 0 else 1) + (if v = -1 then 0 else 1) := by
  unfold cnt
  have e : ps.getD i 0 = ps[i] := by simp [List.getD, hi]
  have hle : (if (ps[i] != -1) = true then 1 else 0) ≤ ps.countP (· != -1) := by
    split
    · rename_i h
      exact List.countP_pos_iff.2 ⟨ps[i], List.getElem_mem hi, h⟩
    · omega
  rw [List.countP_set hi, e]
  generalize ps.countP (· != -1) = n at *
  by_cases h1 : ps[i] = -1
  · have b1 : (ps[i] != -1) = false := by simp [h1]
    by_cases h2 : v = -1
    · have b2 : (v != -1) = false := by simp [h2]
      simp only [b1, b2, if_pos h1, if_pos h2, Bool.false_eq_true, if_false] at hle ⊢
      omega
    · have b2 : (v != -1) = true := by simp [h2]
      simp only [b1, b2, if_pos h1, if_neg h2, Bool.false_eq_true, if_false, if_true] at hle ⊢
      omega
  · have b1 : (ps[i] != -1) = true := by simp [h1]
    by_cases h2 : v = -1
    · have b2 : (v != -1) = false := by simp [h2]
      simp only [b1, b2, if_neg h1, if_pos h2, Bool.false_eq_true, if_false, if_true] at hle ⊢
      omega
    · have b2 : (v != -1) = true := by simp [h2]
      simp only [b1, b2, if_neg h1, if_neg h2, Bool.false_eq_true, if_false, if_true] at hle ⊢
      omega

theorem ClP_keep {ps ps' : List Int} {i : Nat} (h : ClP ps i ps') (hi : 0 < i) (hk : kept ps i ∨ ps.getD i 0 = -1) : ClP ps (i - 1) ps' := by
  refine ⟨h.1, fun q hq => ⟨fun hc => (h.2 q hq).1 (by rcases hc with hc | hc; exact .inl hc; exact .inr (by omega)), fun hc => ?_⟩⟩
  by_cases hqi : q = i
  · subst hqi
    rcases hk with hk | hk
    · exact absurd (.inl hk) hc
    · rw [(h.2 q hq).1 (.inr (Nat.le_refl _)), hk]
  · exact (h.2 q hq).2 fun h2 => hc (by rcases h2 with h2 | h2; exact .inl h2; exact .inr (by omega))
theorem ClP_free {ps ps' : List Int} {i : Nat} (h : ClP ps i ps') (hi : 0 < i) (h8 : i < 8192) (hk : ¬ kept ps i) : ClP ps (i - 1) (ps'.set i (-1)) := by
  refine ⟨by rw [List.length_set]; exact h.1, fun q hq => ?_⟩
  rw [List.getD, List.getElem?_set]
  by_cases hqi : i = q
  · subst hqi
    rw [if_pos rfl, if_pos (by rw [h.1]; omega)]
    exact ⟨fun hc => by rcases hc with hc | hc; exact absurd hc hk; omega, fun _ => rfl⟩
  · rw [if_neg hqi, ← List.getD]
    exact ⟨fun hc => (h.2 q hq).1 (by rcases hc with hc | hc; exact .inl hc; exact .inr (by omega)), fun hc => (h.2 q hq).2 fun h2 => hc (by rcases h2 with h2 | h2; exact .inl h2; exact .inr (by omega))⟩

theorem Least_skip {ps es : List Int} {P : Nat → Prop} {i : Nat} {k : List Int} {o : Option Int} (h : LeastQ ps es P i k o) (hi : 0 < i) (hk : P i → [ps.getD i 0, es.getD i 0] ≠ k) : LeastQ ps es P (i - 1) k o := by
  rcases h with ⟨h1, h2⟩ | ⟨q, h1, h2, h3, h4, h5, h6⟩
  · refine .inl ⟨h1, fun q a b c => ?_⟩
    by_cases hq : q = i
    · subst hq; exact hk c
    · exact h2 q (by omega) b c
  · refine .inr ⟨q, by omega, h2, h3, h4, h5, fun r a b c => ?_⟩
    by_cases hr : r = i
    · subst hr; exact hk c
    · exact h6 r (by omega) b c
theorem Least_put {ps es : List Int} {P : Nat → Prop} {i : Nat} {m m' : List Int → Option Int} {key : List Int} {v : Int} (h : ∀ k, LeastQ ps es P i k (m k)) (hi : 0 < i) (h8 : i < 8192) (hP : P i) (hkey : key = [ps.getD i 0, es.getD i 0]) (hv : v = (i : Int)) (hm : ∀ k, m' k = if k = key then some v else m k) : ∀ k, LeastQ ps es P (i - 1) k (m' k) := by
  intro k
  rw [hm k]
  by_cases hk : k = key
  · rw [if_pos hk]
    exact .inr ⟨i, by omega, h8, hP, by rw [hk, hkey], by rw [hv], fun r a b => by omega⟩
  · rw [if_neg hk]
    exact Least_skip (h k) hi fun _ he => hk (by rw [hkey, he])

theorem s_zclear (ps es : List Int) (m : List Int → Option Int) (last used : Int) (hT : ZT ps es last used) :
    Spec prog 50 [.ptr 0 0] (TbH R ps es m last used) (fun r H => ∃ ps' m' used', ClrQ ps es used ps' m' used' ∧ r = .tup [] ∧ H = TbH R ps' es m' 256 used') := by
  refine Spec_of_kF (D := fun i => if i = 16 then (20, []) else (0, [])) (ks := [0, 2, 4, 5, 13, 14, 15]) tok mixed (fn := f50) rfl rfl rfl (by kernel_rfl) (N := 82) rfl (rs := []) rfl (Nat.le_of_ble_eq_true rfl) fun A C Kp E ag L q hA hC hK hE hag hL hq => ?_
  rw [← hA]
  cbv
  refine call_zok hC hA hT (TO.tv hA hT ⟨rfl, rfl, rfl, rfl⟩) ?_
  cbv
  have hpl := hT.pl
  have hel := hT.el
  have hus := hT.us
  have hnt : A.not true = false := by rw [notA hA]; rfl
  simp only [hnt]
  cbv
  obtain ⟨z8, hz8⟩ : ∃ z8 : List Int, z8 = List.replicate 8192 0 := ⟨_, rfl⟩
  have hr2 : A.row 8192 [.int .u8 0] = A.ints .u8 z8 := by rw [hz8]; exact row_num hA
  have ht : A.tn 8192 = 8192 := by rw [tnA hA]; rfl
  have hm2 : A.mks 1 8192 8192 := by rw [mksA hA]; omega
  have hn8 : A.nat 8192 = 8192 := by rw [natA hA]; rfl
  simp only [hr2, ht, hm2, hn8, true_and]
  have hz : HsQ ps 0 z8 := ⟨by rw [hz8, List.length_replicate], fun p hp => by rw [hz8, getD_rep _ hp]; exact ⟨fun h => absurd rfl h, fun ⟨k, h, _⟩ => by omega⟩⟩
  rw [hL]
  refine loop_keep (fun kk s => ∃ (i : Int) (j : Nat) (hs : List Int) (x4 : SV), i = (j : Int) ∧ j ≤ 8192 ∧ HsQ ps j hs ∧ kk = 8192 - j ∧ s = ⟨[(0, .ptr 0 0), (2, .lst 4 8192), (13, .lst 1 8192), (14, .int .i64 8192), (15, .int .i64 i)], TbH A ps es m last used ++ [.lst 5 1 (A.ints .u8 hs)]⟩)
    [0, 2, 13, 14, 15] 8192 ⟨0, 0, z8, .undef, rfl, by omega, hz, rfl, rfl⟩ ?_
  rintro kk _ ⟨i, j, hs, x4, hi, hj, hH, hkk, rfl⟩
  have hhl := hH.1
  cbv
  (try simp only [ncast] at *)
  refine ifB_intro (fun h => ?_) (fun h => ?_)
  · have hlt := h
    (try simp only [natA hA, lssA hA, leqA hA, gtrA hA, geqA hA, eqlA hA, neqA hA, notA hA, beqA hA, decide_eq_true_eq, decide_eq_false_iff_not, beq_iff_eq, beq_eq_false_iff_ne, bne_iff_ne, bne_eq_false_iff_eq, Bool.not_eq_true', Bool.not_eq_false', ncast, Int.not_lt, Int.not_le, ne_eq, not_true_eq_false, not_false_eq_true, false_or, true_and] at hlt)
    (try rw [h]); clear h
    cbv
    (try simp only [ncast] at *)
    refine rdA hA (by omega) (by omega) fun x hx => ?_
    rw [show 0 + i.toNat = j by omega] at hx
    cbv
    (try simp only [ncast] at *)
    have e2 : A.bin .add .i64 i 1 = i + 1 := by rw [addA hA, wrap64 (by omega)]
    have hpr := hT.pr j (by omega)
    rw [← hx] at hpr
    refine ifB_intro (fun h => ?_) (fun h => ?_)
    · have hne := h
      (try simp only [natA hA, lssA hA, leqA hA, gtrA hA, geqA hA, eqlA hA, neqA hA, notA hA, beqA hA, decide_eq_true_eq, decide_eq_false_iff_not, beq_iff_eq, beq_eq_false_iff_ne, bne_iff_ne, bne_eq_false_iff_eq, Bool.not_eq_true', Bool.not_eq_false', ncast, Int.not_lt, Int.not_le, ne_eq, not_true_eq_false, not_false_eq_true, false_or, true_and] at hne)
      (try rw [h]); clear h
      cbv
      (try simp only [ncast] at *)
      refine wrA hA (by (first | omega | (try simp only [natA hA, lssA hA, leqA hA, gtrA hA, geqA hA, eqlA hA, neqA hA, notA hA, beqA hA, decide_eq_true_eq, decide_eq_false_iff_not, beq_iff_eq, beq_eq_false_iff_ne, bne_iff_ne, bne_eq_false_iff_eq, Bool.not_eq_true', Bool.not_eq_false', ncast, Int.not_lt, Int.not_le, ne_eq, not_true_eq_false, not_false_eq_true, false_or, true_and, addA hA, subA' hA, inrA hA, ge0A hA, ne0A hA, leIA hA, ixA hA, cntA hA, addNA hA, tnA hA, posA hA, Go.IntKind.wrap_i64] at *) <;> omega | (try simp only [decide_eq_true_eq, decide_eq_false_iff_not, beq_iff_eq, beq_eq_false_iff_ne, bne_iff_ne, bne_eq_false_iff_eq, Bool.not_eq_true', Bool.not_eq_false', ncast, Int.not_lt, Int.not_le, ne_eq, not_true_eq_false, not_false_eq_true, false_or, true_and, Go.IntKind.wrap_i64] at *) <;> omega)) (by (first | omega | (try simp only [natA hA, lssA hA, leqA hA, gtrA hA, geqA hA, eqlA hA, neqA hA, notA hA, beqA hA, decide_eq_true_eq, decide_eq_false_iff_not, beq_iff_eq, beq_eq_false_iff_ne, bne_iff_ne, bne_eq_false_iff_eq, Bool.not_eq_true', Bool.not_eq_false', ncast, Int.not_lt, Int.not_le, ne_eq, not_true_eq_false, not_false_eq_true, false_or, true_and, addA hA, subA' hA, inrA hA, ge0A hA, ne0A hA, leIA hA, ixA hA, cntA hA, addNA hA, tnA hA, posA hA, Go.IntKind.wrap_i64] at *) <;> omega | (try simp only [decide_eq_true_eq, decide_eq_false_iff_not, beq_iff_eq, beq_eq_false_iff_ne, bne_iff_ne, bne_eq_false_iff_eq, Bool.not_eq_true', Bool.not_eq_false', ncast, Int.not_lt, Int.not_le, ne_eq, not_true_eq_false, not_false_eq_true, false_or, true_and, Go.IntKind.wrap_i64] at *) <;> omega)) fun ys hys => ?_
      cbv
      (try simp only [ncast] at *)
      rw [show 0 + x.toNat = x.toNat by omega] at hys
      have hH2 : HsQ ps (j + 1) ys := by rw [hys]; exact HsQ_put hH hx (by omega)
      simp only [e2]
      subst hag
      refine ⟨8192 - (j + 1), ⟨[(0, .ptr 0 0), (2, .lst 4 8192), (13, .lst 1 8192), (14, .int .i64 8192), (15, .int .i64 (i + 1))], TbH A ps es m last used ++ [.lst 5 1 (A.ints .u8 ys)]⟩, by omega, ?_, i + 1, j + 1, ys, .undef, by omega, by omega, hH2, rfl, rfl⟩
      subst hA
      unfold TbH
      exact Sub_of [0, 1, 2, 3, 4] (by simp [sigOk, ndG]) (by simp) (by repeat' (first | exact trivial | exact fun _ => rfl | exact fun h => absurd h (by simp) | exact subC_ints rfl | refine And.intro ?_ ?_ | rfl | (simp [subH_nil, hLts, hLt, renCk, renC, sg, Ck.cells, R_ints_ren, R_ints_hLts]; done))) (by repeat' (first | exact trivial | exact .inr ⟨trivial, rfl⟩ | exact .inr ⟨by simp [vOk, hLt, hLts], rfl⟩ | refine And.intro ?_ ?_))
    · have heq := h
      (try simp only [natA hA, lssA hA, leqA hA, gtrA hA, geqA hA, eqlA hA, neqA hA, notA hA, beqA hA, decide_eq_true_eq, decide_eq_false_iff_not, beq_iff_eq, beq_eq_false_iff_ne, bne_iff_ne, bne_eq_false_iff_eq, Bool.not_eq_true', Bool.not_eq_false', ncast, Int.not_lt, Int.not_le, ne_eq, not_true_eq_false, not_false_eq_true, false_or, true_and] at heq)
      (try rw [h]); clear h
      cbv
      (try simp only [ncast] at *)
      have hH2 : HsQ ps (j + 1) hs := HsQ_skip hH (by omega)
      simp only [e2]
      subst hag
      refine ⟨8192 - (j + 1), ⟨[(0, .ptr 0 0), (2, .lst 4 8192), (13, .lst 1 8192), (14, .int .i64 8192), (15, .int .i64 (i + 1))], TbH A ps es m last used ++ [.lst 5 1 (A.ints .u8 hs)]⟩, by omega, ?_, i + 1, j + 1, hs, .undef, by omega, by omega, hH2, rfl, rfl⟩
      subst hA
      unfold TbH
      exact Sub_of [0, 1, 2, 3, 4] (by simp [sigOk, ndG]) (by simp) (by repeat' (first | exact trivial | exact fun _ => rfl | exact fun h => absurd h (by simp) | exact subC_ints rfl | refine And.intro ?_ ?_ | rfl | (simp [subH_nil, hLts, hLt, renCk, renC, sg, Ck.cells, R_ints_ren, R_ints_hLts]; done))) (by repeat' (first | exact trivial | exact .inr ⟨trivial, rfl⟩ | exact .inr ⟨by simp [vOk, hLt, hLts], rfl⟩ | refine And.intro ?_ ?_))
  · have hge := h
    (try simp only [natA hA, lssA hA, leqA hA, gtrA hA, geqA hA, eqlA hA, neqA hA, notA hA, beqA hA, decide_eq_true_eq, decide_eq_false_iff_not, beq_iff_eq, beq_eq_false_iff_ne, bne_iff_ne, bne_eq_false_iff_eq, Bool.not_eq_true', Bool.not_eq_false', ncast, Int.not_lt, Int.not_le, ne_eq, not_true_eq_false, not_false_eq_true, false_or, true_and] at hge)
    (try rw [h]); clear h
    cbv
    (try simp only [ncast] at *)
    have hjj : j = 8192 := by omega
    subst hjj
    refine hk_mclear hE mapL (h := 3) (ks := [.i64, .u8]) (m := m) _ rfl rfl rfl ?_
    cbv
    have hcb := cnt_bnd hpl
    refine loop_keep (fun kk s => ∃ (i u2 : Int) (j : Nat) (ps2 : List Int) (m2 : List Int → Option Int), i = (j : Int) ∧ 256 ≤ j ∧ j < 8192 ∧ ClP ps j ps2 ∧ u2 - cnt ps2 = used - cnt ps ∧ (∀ k, LeastQ ps es (kept ps) j k (m2 k)) ∧ kk = j ∧ s = ⟨[(0, .ptr 0 0), (2, .lst 4 8192), (5, .int .i64 i)], TbH A ps2 es m2 last u2 ++ [.lst 5 1 (A.ints .u8 hs)]⟩)
      [0, 2, 5] 8191 ⟨8191, used, 8191, ps, fun _ => none, rfl, by omega, by omega, ⟨hpl, fun q hq => ⟨fun _ => rfl, fun h => absurd (.inr (by omega)) h⟩⟩, by omega, fun k => .inl ⟨rfl, fun q _ _ => by omega⟩, rfl, rfl⟩ ?_
    clear hi hge hkk
    rintro kk _ ⟨i, u2, j, ps2, m2, hi, hj1, hj2, hP, hu, hM, hkk, rfl⟩
    have hp2 := hP.1
    have hcb2 := cnt_bnd hp2
    cbv
    (try simp only [ncast] at *)
    refine ifB_intro (fun h => ?_) (fun h => ?_)
    · have hgt := h
      (try simp only [natA hA, lssA hA, leqA hA, gtrA hA, geqA hA, eqlA hA, neqA hA, notA hA, beqA hA, decide_eq_true_eq, decide_eq_false_iff_not, beq_iff_eq, beq_eq_false_iff_ne, bne_iff_ne, bne_eq_false_iff_eq, Bool.not_eq_true', Bool.not_eq_false', ncast, Int.not_lt, Int.not_le, ne_eq, not_true_eq_false, not_false_eq_true, false_or, true_and] at hgt)
      (try rw [h]); clear h
      cbv
      (try simp only [ncast] at *)
      have e2 : A.bin .sub .i64 i 1 = i - 1 := by rw [subA' hA, wrap64 (by omega)]
      have e3 : A.bin .sub .i64 u2 1 = u2 - 1 := by rw [subA' hA, wrap64 (by omega)]
      refine rdA hA (by omega) (by omega) fun x hx => ?_
      rw [show 0 + i.toNat = j by omega] at hx
      have hxp : x = ps.getD j 0 := by rw [hx]; exact (hP.2 j hj2).1 (.inr (Nat.le_refl _))
      cbv
      (try simp only [ncast] at *)
      refine ifB_intro (fun h => ?_) (fun h => ?_)
      · have hfree := h
        (try simp only [natA hA, lssA hA, leqA hA, gtrA hA, geqA hA, eqlA hA, neqA hA, notA hA, beqA hA, decide_eq_true_eq, decide_eq_false_iff_not, beq_iff_eq, beq_eq_false_iff_ne, bne_iff_ne, bne_eq_false_iff_eq, Bool.not_eq_true', Bool.not_eq_false', ncast, Int.not_lt, Int.not_le, ne_eq, not_true_eq_false, not_false_eq_true, false_or, true_and] at hfree)
        (try rw [h]); clear h
        cbv
        (try simp only [ncast] at *)
        have hnk : ¬ kept ps j := fun h => h.1 (by rw [← hxp]; exact hfree)
        have q1 := ClP_keep hP (by omega) (.inr (by rw [← hxp]; exact hfree))
        have q3 : ∀ k, LeastQ ps es (kept ps) (j - 1) k (m2 k) := fun k => Least_skip (hM k) (by omega) fun h => absurd h hnk
        simp only [e2]
        subst hag
        refine ⟨j - 1, ⟨[(0, .ptr 0 0), (2, .lst 4 8192), (5, .int .i64 (i - 1))], TbH A ps2 es m2 last u2 ++ [.lst 5 1 (A.ints .u8 hs)]⟩, by omega, ?_, i - 1, u2, j - 1, ps2, m2, by omega, by omega, by omega, q1, hu, q3, rfl, rfl⟩
        subst hA
        unfold TbH
        exact Sub_of [0, 1, 2, 3, 4] (by simp [sigOk, ndG]) (by simp) (by repeat' (first | exact trivial | exact fun _ => rfl | exact fun h => absurd h (by simp) | exact subC_ints rfl | refine And.intro ?_ ?_ | rfl | (simp [subH_nil, hLts, hLt, renCk, renC, sg, Ck.cells, R_ints_ren, R_ints_hLts]; done))) (by repeat' (first | exact trivial | exact .inr ⟨trivial, rfl⟩ | exact .inr ⟨by simp [vOk, hLt, hLts], rfl⟩ | refine And.intro ?_ ?_))
      · have hnf := h
        (try simp only [natA hA, lssA hA, leqA hA, gtrA hA, geqA hA, eqlA hA, neqA hA, notA hA, beqA hA, decide_eq_true_eq, decide_eq_false_iff_not, beq_iff_eq, beq_eq_false_iff_ne, bne_iff_ne, bne_eq_false_iff_eq, Bool.not_eq_true', Bool.not_eq_false', ncast, Int.not_lt, Int.not_le, ne_eq, not_true_eq_false, not_false_eq_true, false_or, true_and] at hnf)
        (try rw [h]); clear h
        cbv
        (try simp only [ncast] at *)
        refine rdA hA (by omega) (by omega) fun y hy => ?_
        rw [show 0 + i.toNat = j by omega] at hy
        have hyP : y ≠ 0 ↔ isP ps j := by rw [hy]; exact hH.2 j hj2
        cbv
        (try simp only [ncast] at *)
        refine ifB_intro (fun h => ?_) (fun h => ?_)
        · have hy0 := h
          (try simp only [natA hA, lssA hA, leqA hA, gtrA hA, geqA hA, eqlA hA, neqA hA, notA hA, beqA hA, decide_eq_true_eq, decide_eq_false_iff_not, beq_iff_eq, beq_eq_false_iff_ne, bne_iff_ne, bne_eq_false_iff_eq, Bool.not_eq_true', Bool.not_eq_false', ncast, Int.not_lt, Int.not_le, ne_eq, not_true_eq_false, not_false_eq_true, false_or, true_and] at hy0)
          (try rw [h]); clear h
          cbv
          (try simp only [ncast] at *)
          refine wrA hA (by (first | omega | (try simp only [natA hA, lssA hA, leqA hA, gtrA hA, geqA hA, eqlA hA, neqA hA, notA hA, beqA hA, decide_eq_true_eq, decide_eq_false_iff_not, beq_iff_eq, beq_eq_false_iff_ne, bne_iff_ne, bne_eq_false_iff_eq, Bool.not_eq_true', Bool.not_eq_false', ncast, Int.not_lt, Int.not_le, ne_eq, not_true_eq_false, not_false_eq_true, false_or, true_and, addA hA, subA' hA, inrA hA, ge0A hA, ne0A hA, leIA hA, ixA hA, cntA hA, addNA hA, tnA hA, posA hA, Go.IntKind.wrap_i64] at *) <;> omega | (try simp only [decide_eq_true_eq, decide_eq_false_iff_not, beq_iff_eq, beq_eq_false_iff_ne, bne_iff_ne, bne_eq_false_iff_eq, Bool.not_eq_true', Bool.not_eq_false', ncast, Int.not_lt, Int.not_le, ne_eq, not_true_eq_false, not_false_eq_true, false_or, true_and, Go.IntKind.wrap_i64] at *) <;> omega)) (by (first | omega | (try simp only [natA hA, lssA hA, leqA hA, gtrA hA, geqA hA, eqlA hA, neqA hA, notA hA, beqA hA, decide_eq_true_eq, decide_eq_false_iff_not, beq_iff_eq, beq_eq_false_iff_ne, bne_iff_ne, bne_eq_false_iff_eq, Bool.not_eq_true', Bool.not_eq_false', ncast, Int.not_lt, Int.not_le, ne_eq, not_true_eq_false, not_false_eq_true, false_or, true_and, addA hA, subA' hA, inrA hA, ge0A hA, ne0A hA, leIA hA, ixA hA, cntA hA, addNA hA, tnA hA, posA hA, Go.IntKind.wrap_i64] at *) <;> omega | (try simp only [decide_eq_true_eq, decide_eq_false_iff_not, beq_iff_eq, beq_eq_false_iff_ne, bne_iff_ne, bne_eq_false_iff_eq, Bool.not_eq_true', Bool.not_eq_false', ncast, Int.not_lt, Int.not_le, ne_eq, not_true_eq_false, not_false_eq_true, false_or, true_and, Go.IntKind.wrap_i64] at *) <;> omega)) fun zs hzs => ?_
          cbv
          (try simp only [ncast] at *)
          rw [show 0 + i.toNat = j by omega] at hzs
          have hnk : ¬ kept ps j := fun h => hyP.2 h.2 hy0
          have q1 : ClP ps (j - 1) zs := by rw [hzs]; exact ClP_free hP (by omega) hj2 hnk
          have q3 : ∀ k, LeastQ ps es (kept ps) (j - 1) k (m2 k) := fun k => Least_skip (hM k) (by omega) fun h => absurd h hnk
          obtain ⟨u3, hu3⟩ : ∃ u3, u3 = u2 - 1 := ⟨_, rfl⟩
          have q2 : u3 - cnt zs = used - cnt ps := by
            rw [hzs, cnt_set (by omega), ← hx, if_neg hnf, if_pos rfl]
            omega
          rw [← hu3] at e3
          simp only [e3]
          simp only [e2]
          subst hag
          refine ⟨j - 1, ⟨[(0, .ptr 0 0), (2, .lst 4 8192), (5, .int .i64 (i - 1))], TbH A zs es m2 last u3 ++ [.lst 5 1 (A.ints .u8 hs)]⟩, by omega, ?_, i - 1, u3, j - 1, zs, m2, by omega, by omega, by omega, q1, q2, q3, rfl, rfl⟩
          subst hA
          unfold TbH
          exact Sub_of [0, 1, 2, 3, 4] (by simp [sigOk, ndG]) (by simp) (by repeat' (first | exact trivial | exact fun _ => rfl | exact fun h => absurd h (by simp) | exact subC_ints rfl | refine And.intro ?_ ?_ | rfl | (simp [subH_nil, hLts, hLt, renCk, renC, sg, Ck.cells, R_ints_ren, R_ints_hLts]; done))) (by repeat' (first | exact trivial | exact .inr ⟨trivial, rfl⟩ | exact .inr ⟨by simp [vOk, hLt, hLts], rfl⟩ | refine And.intro ?_ ?_))
        · have hy1 := h
          (try simp only [natA hA, lssA hA, leqA hA, gtrA hA, geqA hA, eqlA hA, neqA hA, notA hA, beqA hA, decide_eq_true_eq, decide_eq_false_iff_not, beq_iff_eq, beq_eq_false_iff_ne, bne_iff_ne, bne_eq_false_iff_eq, Bool.not_eq_true', Bool.not_eq_false', ncast, Int.not_lt, Int.not_le, ne_eq, not_true_eq_false, not_false_eq_true, false_or, true_and] at hy1)
          (try rw [h]); clear h
          cbv
          (try simp only [ncast] at *)
          have hk : kept ps j := ⟨by rw [← hxp]; exact hnf, hyP.1 hy1⟩
          refine rdA hA (by omega) (by omega) fun x2 hx2 => ?_
          rw [show 0 + i.toNat = j by omega, ← hx] at hx2
          obtain rfl : x = x2 := hx2.symm
          cbv
          (try simp only [ncast] at *)
          refine rdA hA (by omega) (by omega) fun z hz2 => ?_
          rw [show 0 + i.toNat = j by omega] at hz2
          cbv
          (try simp only [ncast] at *)
          refine hk_mput hE mapL keyL (h := 3) (m := m2) (key := [x, z]) _ _ _ rfl rfl rfl rfl rfl rfl fun m' hm' => ?_
          cbv
          (try simp only [ncast] at *)
          have q1 := ClP_keep hP (by omega) (.inl hk)
          have q3 : ∀ k, LeastQ ps es (kept ps) (j - 1) k (m' k) := Least_put hM (by omega) hj2 hk (by rw [hxp, hz2]) hi hm'
          simp only [e2]
          subst hag
          refine ⟨j - 1, ⟨[(0, .ptr 0 0), (2, .lst 4 8192), (5, .int .i64 (i - 1))], TbH A ps2 es m' last u2 ++ [.lst 5 1 (A.ints .u8 hs)]⟩, by omega, ?_, i - 1, u2, j - 1, ps2, m', by omega, by omega, by omega, q1, hu, q3, rfl, rfl⟩
          subst hA
          unfold TbH
          exact Sub_of [0, 1, 2, 3, 4] (by simp [sigOk, ndG]) (by simp) (by repeat' (first | exact trivial | exact fun _ => rfl | exact fun h => absurd h (by simp) | exact subC_ints rfl | refine And.intro ?_ ?_ | rfl | (simp [subH_nil, hLts, hLt, renCk, renC, sg, Ck.cells, R_ints_ren, R_ints_hLts]; done))) (by repeat' (first | exact trivial | exact .inr ⟨trivial, rfl⟩ | exact .inr ⟨by simp [vOk, hLt, hLts], rfl⟩ | refine And.intro ?_ ?_))
    · have hle := h
      (try simp only [natA hA, lssA hA, leqA hA, gtrA hA, geqA hA, eqlA hA, neqA hA, notA hA, beqA hA, decide_eq_true_eq, decide_eq_false_iff_not, beq_iff_eq, beq_eq_false_iff_ne, bne_iff_ne, bne_eq_false_iff_eq, Bool.not_eq_true', Bool.not_eq_false', ncast, Int.not_lt, Int.not_le, ne_eq, not_true_eq_false, not_false_eq_true, false_or, true_and] at hle)
      (try rw [h]); clear h
      cbv
      (try simp only [ncast] at *)
      subst hA hq
      have hj3 : j = 256 := by omega
      subst hj3
      refine Fin_of ⟨[], TbH R ps2 es m2 256 u2⟩ ?_ ⟨ps2, m2, u2, ⟨hP, hu, hM⟩, rfl, rfl⟩
      unfold TbH
      exact Sub_of [0, 1, 2, 3] (by simp [sigOk, ndG]) (by simp) (by repeat' (first | exact trivial | exact fun _ => rfl | exact fun h => absurd h (by simp) | exact subC_ints rfl | refine And.intro ?_ ?_ | rfl | (simp [subH_nil, hLts, hLt, renCk, renC, sg, Ck.cells, R_ints_ren, R_ints_hLts]; done))) (by repeat' (first | exact trivial | exact .inr ⟨trivial, rfl⟩ | exact .inr ⟨by simp [vOk, hLt, hLts], rfl⟩ | refine And.intro ?_ ?_))
end Go.Sx

/- lzw: a code's string. -/
set_option maxRecDepth 100000
set_option maxHeartbeats 4000000
set_option linter.unusedVariables false
set_option linter.unusedSimpArgs false
namespace Go.Sx
open Go.Proofs.Try

/-- Turned up to i from both ends. -/
def RvQ (xs ys : List Int) (i : Nat) : Prop := ys.length = xs.length ∧ ∀ q, q < xs.length → ys.getD q 0 = if q < i ∨ xs.length - 1 - i < q then xs.getD (xs.length - 1 - q) 0 else xs.getD q 0
theorem RvQ_end {xs ys : List Int} {i : Nat} (h : RvQ xs ys i) (hi : xs.length ≤ 2 * i + 1) (hi2 : 2 * i ≤ xs.length) : ys = xs.reverse := by
  refine List.ext_getElem (by rw [h.1, List.length_reverse]) fun q h1 h2 => ?_
  have h3 : q < xs.length := by rw [← h.1]; exact h1
  have := h.2 q h3
  rw [List.getElem_reverse]
  have e1 : ys.getD q 0 = ys[q] := by simp [List.getD, h1]
  have e2 : xs.getD (xs.length - 1 - q) 0 = xs[xs.length - 1 - q] := by simp only [List.getD, List.getElem?_eq_getElem (show xs.length - 1 - q < xs.length by omega), Option.getD_some]
  rw [← e1, this, ← e2]
  by_cases hc : q < i ∨ xs.length - 1 - i < q
  · rw [if_pos hc]
  · rw [if_neg hc, show xs.length - 1 - q = q by omega]
theorem RvQ_step {xs ys : List Int} {i : Nat} (h : RvQ xs ys i) (hi : 2 * i + 1 < xs.length) : RvQ xs ((ys.set i (ys.getD (xs.length - 1 - i) 0)).set (xs.length - 1 - i) (ys.getD i 0)) (i + 1) := by
  have hl := h.1
  refine ⟨by rw [List.length_set, List.length_set]; exact h.1, fun q hq => ?_⟩
  have a1 := h.2 i (by omega)
  have a2 := h.2 (xs.length - 1 - i) (by omega)
  rw [if_neg (by omega)] at a1 a2
  have a3 := h.2 q hq
  rw [List.getD, List.getElem?_set]
  by_cases hq1 : xs.length - 1 - i = q
  · rw [if_pos hq1, if_pos (by rw [List.length_set]; omega), if_pos (by omega)]
    show ys.getD i 0 = _
    rw [a1, ← hq1, show xs.length - 1 - (xs.length - 1 - i) = i by omega]
  · rw [if_neg hq1, List.getElem?_set]
    by_cases hq2 : i = q
    · rw [if_pos hq2, if_pos (by omega), if_pos (by omega)]
      show ys.getD (xs.length - 1 - i) 0 = _
      rw [a2, hq2]
    · rw [if_neg hq2, ← List.getD, a3]
      by_cases hc : q < i ∨ xs.length - 1 - i < q
      · rw [if_pos hc, if_pos (by omega)]
      · rw [if_neg hc, if_neg (by omega)]

theorem s_rev (xs : List Int) (n : Nat) (hn : n = xs.length) (hl : xs.length ≤ 1000000000000) : Spec prog 64 [.lst 0 n] [.lst 5 1 (R.ints .u8 xs)] (fun r H => r = .tup [] ∧ H = [.lst 5 1 (R.ints .u8 xs.reverse)]) := by
  refine Spec_of_kX (D := fun i => if i = 3 then (16, [0,1007011,2000000]) else (0, [])) (ks := [0, 2, 3]) tok mixed (fn := f64) rfl rfl rfl (by kernel_rfl) (N := 28) rfl (rs := []) rfl (Nat.le_of_ble_eq_true rfl) fun A C Kp E ag L q hA hC hK hE hag hL hq => ?_
  rw [← hA]
  cbv
  have e0 : A.bin .sub .i64 (A.nat n) 1 = (n : Int) - 1 := by rw [subA' hA, natA hA, wrap64 (by omega)]
  obtain ⟨z0, hz0⟩ : ∃ z0, z0 = (n : Int) - 1 := ⟨_, rfl⟩
  rw [← hz0] at e0
  simp only [e0]
  rw [hL]
  refine loop_keep (fun kk s => ∃ (i z : Int) (j : Nat) (ys : List Int), i = (j : Int) ∧ z = (n : Int) - (i + 1) ∧ 2 * j ≤ xs.length ∧ RvQ xs ys j ∧ kk = xs.length - j ∧ s = ⟨[(0, .lst 0 n), (2, .int .i64 i), (3, .int .i64 z)], [.lst 5 1 (A.ints .u8 ys)]⟩)
    [0, 2, 3] xs.length ⟨0, z0, 0, xs, rfl, by omega, by omega, ⟨rfl, fun q hq => by rw [if_neg (by omega)]⟩, by omega, rfl⟩ ?_
  rintro kk _ ⟨i, z, j, ys, hi, hz, hj, hQ, hkk, rfl⟩
  have hyl := hQ.1
  cbv
  (try simp only [ncast] at *)
  refine ifB_intro (fun h => ?_) (fun h => ?_)
  · have hlt := h
    (try simp only [natA hA, lssA hA, leqA hA, gtrA hA, geqA hA, eqlA hA, neqA hA, notA hA, beqA hA, decide_eq_true_eq, decide_eq_false_iff_not, beq_iff_eq, beq_eq_false_iff_ne, bne_iff_ne, bne_eq_false_iff_eq, Bool.not_eq_true', Bool.not_eq_false', ncast, Int.not_lt, Int.not_le, ne_eq, not_true_eq_false, not_false_eq_true, false_or, true_and] at hlt)
    (try rw [h]); clear h
    cbv
    (try simp only [ncast] at *)
    obtain ⟨zs, hzs⟩ : ∃ zs, zs = (ys.set j (ys.getD (xs.length - 1 - j) 0)).set (xs.length - 1 - j) (ys.getD j 0) := ⟨_, rfl⟩
    have hQ2 : RvQ xs zs (j + 1) := by rw [hzs]; exact RvQ_step hQ (by omega)
    have e2 : A.bin .add .i64 i 1 = i + 1 := by rw [addA hA, wrap64 (by omega)]
    have e3 : A.bin .sub .i64 z 1 = z - 1 := by rw [subA' hA, wrap64 (by omega)]
    refine ⟨⟨[[0,1,2,3,4,5,6,7,8,9,10,11,12,13,14,15],[0,1,2,3,4,5,6,8,9,10,11,7,12,13,14,15]], by kernel_rfl, fun F hF => ?_⟩⟩
    have h3 : F ⟨[(0, .lst 0 n), (2, .int .i64 i), (3, .int .i64 z)], [.lst 5 1 (A.ints .u8 zs)]⟩ := by
      refine hF _ ?_
      clear hF
      cbv
      (try simp only [ncast] at *)
      simp only [e2, e3]
      subst hag
      refine ⟨xs.length - (j + 1), ⟨[(0, .lst 0 n), (2, .int .i64 (i + 1)), (3, .int .i64 (z - 1))], [.lst 5 1 (A.ints .u8 zs)]⟩, by omega, ?_, i + 1, z - 1, j + 1, zs, by omega, by omega, by omega, hQ2, rfl, rfl⟩
      subst hA
      exact Sub_of [0] (by simp [sigOk, ndG]) (by simp) (by repeat' (first | exact trivial | exact fun _ => rfl | exact fun h => absurd h (by simp) | exact subC_ints rfl | refine And.intro ?_ ?_ | rfl | (simp [subH_nil, hLts, hLt, renCk, renC, sg, Ck.cells, R_ints_ren, R_ints_hLts]; done))) (by repeat' (first | exact trivial | exact .inr ⟨trivial, rfl⟩ | exact .inr ⟨by simp [vOk, hLt, hLts], rfl⟩ | refine And.intro ?_ ?_))
    clear hF
    cbv
    (try simp only [ncast] at *)
    refine ⟨?_, ?_, trivial⟩
    · refine rdA hA (by omega) (by omega) fun a ha => ?_
      cbv
      (try simp only [ncast] at *)
      refine rdA hA (by omega) (by omega) fun b hb => ?_
      cbv
      (try simp only [ncast] at *)
      refine wrA hA (by omega) (by omega) fun u1 hu1 => ?_
      cbv
      (try simp only [ncast] at *)
      have hul : u1.length = ys.length := by rw [hu1, List.length_set]
      refine wrA hA (by omega) (by omega) fun u2 hu2 => ?_
      cbv
      (try simp only [ncast] at *)
      rw [show 0 + i.toNat = j by omega] at hu1 hb
      rw [show 0 + z.toNat = xs.length - 1 - j by omega] at hu2 ha
      have he : u2 = zs := by rw [hu2, hu1, ha, hb, hzs]
      subst he
      subst hA hag
      refine ⟨0, _, Nat.zero_lt_one, ?_, h3⟩
      exact Sub_of [0] (by simp [sigOk, ndG]) (by simp) (by repeat' (first | exact trivial | exact fun _ => rfl | exact fun h => absurd h (by simp) | exact subC_ints rfl | refine And.intro ?_ ?_ | rfl | (simp [subH_nil, hLts, hLt, renCk, renC, sg, Ck.cells, R_ints_ren, R_ints_hLts]; done))) (by repeat' (first | exact trivial | exact .inr ⟨trivial, rfl⟩ | exact .inr ⟨by simp [vOk, hLt, hLts], rfl⟩ | refine And.intro ?_ ?_))
    · have hin : A.inr z n := by rw [inrA hA]; omega
      refine ⟨hin, ?_⟩
      refine rdA hA (by omega) (by omega) fun b hb => ?_
      cbv
      (try simp only [ncast] at *)
      refine rdA' hA (by omega) fun a ha => ?_
      cbv
      (try simp only [ncast] at *)
      refine wrA hA (by omega) (by omega) fun u1 hu1 => ?_
      cbv
      (try simp only [ncast] at *)
      have hul : u1.length = ys.length := by rw [hu1, List.length_set]
      refine wrA hA (by omega) (by omega) fun u2 hu2 => ?_
      cbv
      (try simp only [ncast] at *)
      rw [show 0 + i.toNat = j by omega] at hu1 hb
      rw [show 0 + z.toNat = xs.length - 1 - j by omega] at hu2 ha
      have he : u2 = zs := by rw [hu2, hu1, ha, hb, hzs]
      subst he
      subst hA hag
      refine ⟨0, _, Nat.zero_lt_one, ?_, h3⟩
      exact Sub_of [0] (by simp [sigOk, ndG]) (by simp) (by repeat' (first | exact trivial | exact fun _ => rfl | exact fun h => absurd h (by simp) | exact subC_ints rfl | refine And.intro ?_ ?_ | rfl | (simp [subH_nil, hLts, hLt, renCk, renC, sg, Ck.cells, R_ints_ren, R_ints_hLts]; done))) (by repeat' (first | exact trivial | exact .inr ⟨trivial, rfl⟩ | exact .inr ⟨by simp [vOk, hLt, hLts], rfl⟩ | refine And.intro ?_ ?_))
  · have hge := h
    (try simp only [natA hA, lssA hA, leqA hA, gtrA hA, geqA hA, eqlA hA, neqA hA, notA hA, beqA hA, decide_eq_true_eq, decide_eq_false_iff_not, beq_iff_eq, beq_eq_false_iff_ne, bne_iff_ne, bne_eq_false_iff_eq, Bool.not_eq_true', Bool.not_eq_false', ncast, Int.not_lt, Int.not_le, ne_eq, not_true_eq_false, not_false_eq_true, false_or, true_and] at hge)
    (try rw [h]); clear h
    cbv
    (try simp only [ncast] at *)
    have hre := RvQ_end hQ (by omega) hj
    subst hA hq
    exact ⟨rfl, by rw [hre]⟩
end Go.Sx

/- lzw: Text. -/
set_option maxRecDepth 100000
set_option maxHeartbeats 4000000
set_option linter.unusedVariables false
set_option linter.unusedSimpArgs false
namespace Go.Sx
open Go.Proofs.Try

/-- A code's string, over so many codes. -/
def txt (ps es : List Int) : Nat → Int → Option (List Int)
  | 0, _ => none
  | k + 1, code => if code < 0 ∨ 8192 ≤ code ∨ code = 256 then none else if code < 256 then some [code] else (txt ps es k (ps.getD code.toNat 0)).map fun t => t ++ [es.getD code.toNat 0]
def TxQ (ps es : List Int) (code : Int) (t : List Int) (b : Bool) : Prop := (txt ps es 8192 code = some t ∧ b = true) ∨ (txt ps es 8192 code = none ∧ b = false ∧ t = [])
theorem txt_len {ps es : List Int} : ∀ (k : Nat) {code : Int} {t : List Int}, txt ps es k code = some t → t.length ≤ k
  | 0, code, t, h => by cases h
  | k + 1, code, t, h => by
    unfold txt at h
    split at h
    · cases h
    · split at h
      · cases h; simp
      · cases hk : txt ps es k (ps.getD code.toNat 0) with
        | none => rw [hk] at h; cases h
        | some u =>
          rw [hk] at h
          cases h
          have := txt_len k hk
          simp; omega

section
variable {A : Ar} {C : CallT} {s : St} {κ : List Nat → SV → List Ck → Prop}
theorem call_rev (hC : C = CallX prog) (hA : A = R) {xs : List Int} {h n : Nat} (hn : n = xs.length) (hl : xs.length ≤ 1000000000000) (k : s.H[h]? = some (.lst 5 1 (A.ints .u8 xs))) (hk : ∀ zs, zs = xs.reverse → κ [h] (.tup []) (set1 s.H h (.lst 5 1 (A.ints .u8 zs)))) : C 64 [.lst h n] s κ := by
  have hS := s_rev xs n hn hl
  rw [← hA] at hS
  refine cal_of hC hS [(h, 0, true)] ⟨by simp, trivial⟩ ⟨rfl, hLtsA hA .., zOksA hA .., ?_, trivial⟩ ⟨⟨(show 0 < 1 by omega), rfl, rfl⟩, trivial⟩ ?_
  · rw [renCk, renA hA]; exact k
  rintro _ _ ⟨rfl, rfl⟩
  refine ⟨[h], .tup [], s.H.set h (.lst 5 1 (A.ints .u8 xs.reverse)), rfl, rfl, ?_, ?_⟩
  · simp only [backH, List.map_cons, List.map_nil, renCk, renA hA, setAll, List.length_cons, List.length_nil, List.drop_succ_cons, List.drop_zero, List.append_nil]
  · have := hk _ rfl
    rw [set1_eq] at this
    exact this
end

theorem s_ztext (ps es : List Int) (last used code : Int) (hT : ZT ps es last used) : Spec prog 51 [.ptr 0 0, .int .i64 code] (VH R ps es last used)
    (fun r H => ∃ (t : List Int) (b : Bool) (k : Nat), TxQ ps es code t b ∧ k = t.length ∧ r = .tup [.lst 4 k, .bool b] ∧ H = VH R ps es last used ++ [.lst 5 1 (R.ints .u8 t)]) := by
  refine Spec_of_kF (D := fun i => (0, [])) (ks := [0, 1, 4, 5, 6, 7]) tok mixed (fn := f51) rfl rfl rfl (by kernel_rfl) (N := 54) rfl (rs := [.tmp 4, .tmp 5]) rfl (Nat.le_of_ble_eq_true rfl) fun A C Kp E ag L q hA hC hK hE hag hL hq => ?_
  rw [← hA]
  cbv
  refine call_zok hC hA hT (TV.vws hA hT rfl rfl rfl rfl) ?_
  cbv
  have hnt : A.not true = false := by rw [notA hA]; rfl
  simp only [hnt]
  cbv
  have hpl := hT.pl
  have hel := hT.el
  rw [hL]
  refine ⟨fun kk s => ∃ (i c : Int) (j k : Nat) (acc : List Int), i = (j : Int) ∧ j ≤ 8192 ∧ acc.length = j ∧ k = j ∧ txt ps es 8192 code = (txt ps es (8192 - j) c).map (fun t => t ++ acc.reverse) ∧ kk = 8192 - j ∧
      s = ⟨[(0, .ptr 0 0), (1, .int .i64 c), (6, .lst 4 k), (7, .int .i64 i)], VH A ps es last used ++ [.lst 5 1 (A.ints .u8 acc)]⟩,
    ⟨8192, ⟨[(0, .ptr 0 0), (1, .int .i64 code), (6, .lst 4 0), (7, .int .i64 0)], VH A ps es last used ++ [.lst 5 1 (A.ints .u8 [])]⟩, ?_, 0, code, 0, 0, [], rfl, by omega, rfl, rfl, ?_, rfl, rfl⟩, ?_⟩
  · subst hA
    refine (Sub_nilT (i := 6) 5 1 rfl).trans ?_
    unfold VH
    exact Sub_of [0, 1, 2, 3, 4] (by simp [sigOk, ndG]) (by simp) (by repeat' (first | exact trivial | exact fun _ => rfl | exact fun h => absurd h (by simp) | exact subC_ints rfl | refine And.intro ?_ ?_ | rfl | (simp [subH_nil, hLts, hLt, renCk, renC, sg, Ck.cells, R_ints_ren, R_ints_hLts]; done))) (by repeat' (first | exact trivial | exact .inr ⟨trivial, rfl⟩ | exact .inr ⟨by simp [vOk, hLt, hLts], rfl⟩ | refine And.intro ?_ ?_))
  · cases txt ps es 8192 code with
    | none => rfl
    | some t => simp
  rintro kk _ ⟨i, c, j, k, acc, hi, hj, hal, hkj, htx, hkk, rfl⟩
  cbv
  (try simp only [ncast] at *)
  refine ifB_intro (fun h => ?_) (fun h => ?_)
  · have h1 := h
    (try simp only [natA hA, lssA hA, leqA hA, gtrA hA, geqA hA, eqlA hA, neqA hA, notA hA, beqA hA, decide_eq_true_eq, decide_eq_false_iff_not, beq_iff_eq, beq_eq_false_iff_ne, bne_iff_ne, bne_eq_false_iff_eq, Bool.not_eq_true', Bool.not_eq_false', ncast, Int.not_lt, Int.not_le, ne_eq, not_true_eq_false, not_false_eq_true, false_or, true_and] at h1)
    (try rw [h]); clear h
    cbv
    (try simp only [ncast] at *)
    have hm : 8192 - j = (8192 - (j + 1)) + 1 := by omega
    refine ifB_intro (fun h => ?_) (fun h => ?_)
    · have h2 := h
      (try simp only [natA hA, lssA hA, leqA hA, gtrA hA, geqA hA, eqlA hA, neqA hA, notA hA, beqA hA, decide_eq_true_eq, decide_eq_false_iff_not, beq_iff_eq, beq_eq_false_iff_ne, bne_iff_ne, bne_eq_false_iff_eq, Bool.not_eq_true', Bool.not_eq_false', ncast, Int.not_lt, Int.not_le, ne_eq, not_true_eq_false, not_false_eq_true, false_or, true_and] at h2)
      (try rw [h]); clear h
      cbv
      (try simp only [ncast] at *)
      refine ifB_intro (fun h => ?_) (fun h => ?_)
      · have h3 := h
        (try simp only [natA hA, lssA hA, leqA hA, gtrA hA, geqA hA, eqlA hA, neqA hA, notA hA, beqA hA, decide_eq_true_eq, decide_eq_false_iff_not, beq_iff_eq, beq_eq_false_iff_ne, bne_iff_ne, bne_eq_false_iff_eq, Bool.not_eq_true', Bool.not_eq_false', ncast, Int.not_lt, Int.not_le, ne_eq, not_true_eq_false, not_false_eq_true, false_or, true_and] at h3)
        (try rw [h]); clear h
        cbv
        (try simp only [ncast] at *)
        refine ifB_intro (fun h => ?_) (fun h => ?_)
        · have h4 := h
          (try simp only [natA hA, lssA hA, leqA hA, gtrA hA, geqA hA, eqlA hA, neqA hA, notA hA, beqA hA, decide_eq_true_eq, decide_eq_false_iff_not, beq_iff_eq, beq_eq_false_iff_ne, bne_iff_ne, bne_eq_false_iff_eq, Bool.not_eq_true', Bool.not_eq_false', ncast, Int.not_lt, Int.not_le, ne_eq, not_true_eq_false, not_false_eq_true, false_or, true_and] at h4)
          (try rw [h]); clear h
          cbv
          (try simp only [ncast] at *)
          refine ifB_intro (fun h => ?_) (fun h => ?_)
          · have h5 := h
            (try simp only [natA hA, lssA hA, leqA hA, gtrA hA, geqA hA, eqlA hA, neqA hA, notA hA, beqA hA, decide_eq_true_eq, decide_eq_false_iff_not, beq_iff_eq, beq_eq_false_iff_ne, bne_iff_ne, bne_eq_false_iff_eq, Bool.not_eq_true', Bool.not_eq_false', ncast, Int.not_lt, Int.not_le, ne_eq, not_true_eq_false, not_false_eq_true, false_or, true_and] at h5)
            (try rw [h]); clear h
            cbv
            (try simp only [ncast] at *)
            have hw : A.wrap .u8 c = c := by rw [wrapA hA, Go.IntKind.wrap_u8]; omega
            simp only [hw]
            have ha := apdA1 hA .u8 acc c
            have ek : A.add k 1 = k + 1 := by subst hA; rfl
            have hal2 : (acc ++ [c]).length = k + 1 := by simp; omega
            refine ⟨?_, ?_, ?_⟩
            · subst hA
              show (R.ints .u8 acc).length = k * 1
              rw [R_ints_length]; omega
            · subst hA
              show (k + 1) * 1 ≤ room
              unfold room; omega
            simp only [ek]
            cbv
            (try simp only [ncast] at *)
            refine call_rev hC hA (xs := acc ++ [c]) (h := 6) hal2.symm (by omega) (congrArg (fun l => some (Ck.lst _ _ l)) ha) fun zs hzs => ?_
            have hzl : zs.length = k + 1 := by rw [hzs, List.length_reverse]; exact hal2
            have htz : txt ps es 8192 code = some zs := by
              rw [htx, hm, txt, if_neg (by omega), if_pos h5, hzs, List.reverse_append]
              rfl
            clear hzs hal2
            cbv
            (try simp only [ncast] at *)
            subst hA hq
            refine Fin_of ⟨[(4, .lst 4 (k + 1)), (5, .bool true)], VH R ps es last used ++ [.lst 5 1 (R.ints .u8 zs)]⟩ ?_ ⟨zs, true, k + 1, .inl ⟨htz, rfl⟩, hzl.symm, rfl, rfl⟩
            unfold VH
            exact Sub_of [0, 1, 2, 3, 6] (by simp [sigOk, ndG]) (by simp) (by repeat' (first | exact trivial | exact fun _ => rfl | exact fun h => absurd h (by simp) | exact subC_ints rfl | refine And.intro ?_ ?_ | rfl | (simp [subH_nil, hLts, hLt, renCk, renC, sg, Ck.cells, R_ints_ren, R_ints_hLts]; done))) (by repeat' (first | exact trivial | exact .inr ⟨trivial, rfl⟩ | exact .inr ⟨by simp [vOk, hLt, hLts], rfl⟩ | refine And.intro ?_ ?_))
          · have h5 := h
            (try simp only [natA hA, lssA hA, leqA hA, gtrA hA, geqA hA, eqlA hA, neqA hA, notA hA, beqA hA, decide_eq_true_eq, decide_eq_false_iff_not, beq_iff_eq, beq_eq_false_iff_ne, bne_iff_ne, bne_eq_false_iff_eq, Bool.not_eq_true', Bool.not_eq_false', ncast, Int.not_lt, Int.not_le, ne_eq, not_true_eq_false, not_false_eq_true, false_or, true_and] at h5)
            (try rw [h]); clear h
            cbv
            (try simp only [ncast] at *)
            refine rdA hA (by omega) (by omega) fun y hy => ?_
            rw [show 0 + c.toNat = c.toNat by omega] at hy
            cbv
            (try simp only [ncast] at *)
            have ha := apdA1 hA .u8 acc y
            refine ⟨?_, ?_, ?_⟩
            · subst hA
              show (R.ints .u8 acc).length = k * 1
              rw [R_ints_length]; omega
            · subst hA
              show (k + 1) * 1 ≤ room
              unfold room; omega
            cbv
            (try simp only [ncast] at *)
            refine rdA hA (by omega) (by omega) fun x hx => ?_
            rw [show 0 + c.toNat = c.toNat by omega] at hx
            cbv
            (try simp only [ncast] at *)
            have ek : A.add k 1 = k + 1 := by subst hA; rfl
            have e2 : A.bin .add .i64 i 1 = i + 1 := by rw [addA hA, wrap64 (by omega)]
            simp only [e2, ek]
            subst hag
            refine ⟨8192 - (j + 1), ⟨[(0, .ptr 0 0), (1, .int .i64 x), (6, .lst 4 (k + 1)), (7, .int .i64 (i + 1))], VH A ps es last used ++ [.lst 5 1 (A.ints .u8 (acc ++ [y]))]⟩, by omega, ?_, i + 1, x, j + 1, k + 1, acc ++ [y], by omega, by omega, by simp; omega, by omega, ?_, rfl, rfl⟩
            · subst hA
              unfold VH
              exact Sub_of [0, 1, 2, 3, 6] (by simp [sigOk, ndG]) (by simp) (by repeat' (first | exact trivial | exact fun _ => rfl | exact fun h => absurd h (by simp) | exact subC_ints rfl | exact subC_ints (congrArg (fun l => some (Ck.lst _ _ l)) ha) | refine And.intro ?_ ?_ | rfl | (simp [subH_nil, hLts, hLt, renCk, renC, sg, Ck.cells, R_ints_ren, R_ints_hLts, ha]; done))) (by repeat' (first | exact trivial | exact .inr ⟨trivial, rfl⟩ | exact .inr ⟨by simp [vOk, hLt, hLts, ha], rfl⟩ | refine And.intro ?_ ?_))
            · rw [htx, hm, txt, if_neg (by omega), if_neg (by omega), ← hx, ← hy]
              cases txt ps es (8192 - (j + 1)) x with
              | none => rfl
              | some t => simp
        · have h4 := h
          (try simp only [natA hA, lssA hA, leqA hA, gtrA hA, geqA hA, eqlA hA, neqA hA, notA hA, beqA hA, decide_eq_true_eq, decide_eq_false_iff_not, beq_iff_eq, beq_eq_false_iff_ne, bne_iff_ne, bne_eq_false_iff_eq, Bool.not_eq_true', Bool.not_eq_false', ncast, Int.not_lt, Int.not_le, ne_eq, not_true_eq_false, not_false_eq_true, false_or, true_and] at h4)
          (try rw [h]); clear h
          cbv
          (try simp only [ncast] at *)
          subst hA hq
          have hn : txt ps es (8192 - j) c = none := by
            cases hm : 8192 - j with
            | zero => rfl
            | succ m => rw [txt, if_pos (by omega)]
          rw [hn] at htx
          refine Fin_of ⟨[(4, .lst 4 0), (5, .bool false)], VH R ps es last used ++ [.lst 5 1 (R.ints .u8 [])]⟩ ((Sub_nilT (i := 4) 5 1 rfl).trans ?_) ⟨[], false, 0, .inr ⟨htx, rfl, rfl⟩, rfl, rfl, rfl⟩
          unfold VH
          exact Sub_of [0, 1, 2, 3, 5] (by simp [sigOk, ndG]) (by simp) (by repeat' (first | exact trivial | exact fun _ => rfl | exact fun h => absurd h (by simp) | exact subC_ints rfl | refine And.intro ?_ ?_ | rfl | (simp [subH_nil, hLts, hLt, renCk, renC, sg, Ck.cells, R_ints_ren, R_ints_hLts]; done))) (by repeat' (first | exact trivial | exact .inr ⟨trivial, rfl⟩ | exact .inr ⟨by simp [vOk, hLt, hLts], rfl⟩ | refine And.intro ?_ ?_))
      · have h3 := h
        (try simp only [natA hA, lssA hA, leqA hA, gtrA hA, geqA hA, eqlA hA, neqA hA, notA hA, beqA hA, decide_eq_true_eq, decide_eq_false_iff_not, beq_iff_eq, beq_eq_false_iff_ne, bne_iff_ne, bne_eq_false_iff_eq, Bool.not_eq_true', Bool.not_eq_false', ncast, Int.not_lt, Int.not_le, ne_eq, not_true_eq_false, not_false_eq_true, false_or, true_and] at h3)
        (try rw [h]); clear h
        cbv
        (try simp only [ncast] at *)
        subst hA hq
        have hn : txt ps es (8192 - j) c = none := by
          cases hm : 8192 - j with
          | zero => rfl
          | succ m => rw [txt, if_pos (by omega)]
        rw [hn] at htx
        refine Fin_of ⟨[(4, .lst 4 0), (5, .bool false)], VH R ps es last used ++ [.lst 5 1 (R.ints .u8 [])]⟩ ((Sub_nilT (i := 4) 5 1 rfl).trans ?_) ⟨[], false, 0, .inr ⟨htx, rfl, rfl⟩, rfl, rfl, rfl⟩
        unfold VH
        exact Sub_of [0, 1, 2, 3, 5] (by simp [sigOk, ndG]) (by simp) (by repeat' (first | exact trivial | exact fun _ => rfl | exact fun h => absurd h (by simp) | exact subC_ints rfl | refine And.intro ?_ ?_ | rfl | (simp [subH_nil, hLts, hLt, renCk, renC, sg, Ck.cells, R_ints_ren, R_ints_hLts]; done))) (by repeat' (first | exact trivial | exact .inr ⟨trivial, rfl⟩ | exact .inr ⟨by simp [vOk, hLt, hLts], rfl⟩ | refine And.intro ?_ ?_))
    · have h2 := h
      (try simp only [natA hA, lssA hA, leqA hA, gtrA hA, geqA hA, eqlA hA, neqA hA, notA hA, beqA hA, decide_eq_true_eq, decide_eq_false_iff_not, beq_iff_eq, beq_eq_false_iff_ne, bne_iff_ne, bne_eq_false_iff_eq, Bool.not_eq_true', Bool.not_eq_false', ncast, Int.not_lt, Int.not_le, ne_eq, not_true_eq_false, not_false_eq_true, false_or, true_and] at h2)
      (try rw [h]); clear h
      cbv
      (try simp only [ncast] at *)
      subst hA hq
      have hn : txt ps es (8192 - j) c = none := by
        cases hm : 8192 - j with
        | zero => rfl
        | succ m => rw [txt, if_pos (by omega)]
      rw [hn] at htx
      refine Fin_of ⟨[(4, .lst 4 0), (5, .bool false)], VH R ps es last used ++ [.lst 5 1 (R.ints .u8 [])]⟩ ((Sub_nilT (i := 4) 5 1 rfl).trans ?_) ⟨[], false, 0, .inr ⟨htx, rfl, rfl⟩, rfl, rfl, rfl⟩
      unfold VH
      exact Sub_of [0, 1, 2, 3, 5] (by simp [sigOk, ndG]) (by simp) (by repeat' (first | exact trivial | exact fun _ => rfl | exact fun h => absurd h (by simp) | exact subC_ints rfl | refine And.intro ?_ ?_ | rfl | (simp [subH_nil, hLts, hLt, renCk, renC, sg, Ck.cells, R_ints_ren, R_ints_hLts]; done))) (by repeat' (first | exact trivial | exact .inr ⟨trivial, rfl⟩ | exact .inr ⟨by simp [vOk, hLt, hLts], rfl⟩ | refine And.intro ?_ ?_))
  · have h1 := h
    (try simp only [natA hA, lssA hA, leqA hA, gtrA hA, geqA hA, eqlA hA, neqA hA, notA hA, beqA hA, decide_eq_true_eq, decide_eq_false_iff_not, beq_iff_eq, beq_eq_false_iff_ne, bne_iff_ne, bne_eq_false_iff_eq, Bool.not_eq_true', Bool.not_eq_false', ncast, Int.not_lt, Int.not_le, ne_eq, not_true_eq_false, not_false_eq_true, false_or, true_and] at h1)
    (try rw [h]); clear h
    cbv
    (try simp only [ncast] at *)
    subst hA hq
    have hn : txt ps es (8192 - j) c = none := by
      cases hm : 8192 - j with
      | zero => rfl
      | succ m => rw [txt, if_pos (by omega)]
    rw [hn] at htx
    refine Fin_of ⟨[(4, .lst 4 0), (5, .bool false)], VH R ps es last used ++ [.lst 5 1 (R.ints .u8 [])]⟩ ((Sub_nilT (i := 4) 5 1 rfl).trans ?_) ⟨[], false, 0, .inr ⟨htx, rfl, rfl⟩, rfl, rfl, rfl⟩
    unfold VH
    exact Sub_of [0, 1, 2, 3, 5] (by simp [sigOk, ndG]) (by simp) (by repeat' (first | exact trivial | exact fun _ => rfl | exact fun h => absurd h (by simp) | exact subC_ints rfl | refine And.intro ?_ ?_ | rfl | (simp [subH_nil, hLts, hLt, renCk, renC, sg, Ck.cells, R_ints_ren, R_ints_hLts]; done))) (by repeat' (first | exact trivial | exact .inr ⟨trivial, rfl⟩ | exact .inr ⟨by simp [vOk, hLt, hLts], rfl⟩ | refine And.intro ?_ ?_))
end Go.Sx

/- lzw: plain laws: what a table is behind calls, which strings stay. -/
set_option maxRecDepth 100000
set_option maxHeartbeats 4000000
set_option linter.unusedVariables false
set_option linter.unusedSimpArgs false
namespace Go.Sx
open Go.Proofs.Try

structure ZI (ps es : List Int) (last used : Int) : Prop where
  zt : ZT ps es last used
  lo : ∀ q, q ≤ 256 → ps.getD q 0 = -1
  ct : used = cnt ps

theorem getD_set {l : List Int} {i q : Nat} {v : Int} (hi : i < l.length) : (l.set i v).getD q 0 = if i = q then v else l.getD q 0 := by
  rw [List.getD, List.getElem?_set]
  by_cases h : i = q
  · rw [if_pos h, if_pos (by omega), if_pos h]; rfl
  · rw [if_neg h, if_neg h, ← List.getD]

theorem ZI_new : ZI (List.replicate 8192 (-1)) (List.replicate 8192 0) 256 0 := by
  have hct : (0 : Int) = cnt (List.replicate 8192 (-1)) := by
    unfold cnt
    rw [List.countP_replicate]
    rfl
  refine ⟨⟨List.length_replicate, List.length_replicate, by omega, by omega, fun q hq => .inl (getD_rep _ hq), fun q => ?_⟩, fun q hq => getD_rep _ (by omega), hct⟩
  rw [List.getD, List.getElem?_replicate]
  split
  · exact ⟨by show (0 : Int) ≤ 0; omega, by show (0 : Int) ≤ 255; omega⟩
  · exact ⟨by show (0 : Int) ≤ 0; omega, by show (0 : Int) ≤ 255; omega⟩

theorem ZI_add {ps es ps' es' : List Int} {m m' : List Int → Option Int} {last used p c n last' used' : Int} (h : ZI ps es last used) (hc : 0 ≤ c ∧ c ≤ 255) (hQ : AddQ ps es m last used p c n ps' es' m' last' used') : ZI ps' es' last' used' := by
  rcases hQ with ⟨_, _, rfl, rfl, _, rfl, rfl⟩ | ⟨hn, h0, hp0, hp1, hp2, rfl, rfl, rfl, rfl, _⟩
  · exact h
  · have hpl := h.zt.pl
    have hel := h.zt.el
    have hla := h.zt.la
    rcases hn with ⟨h1, _⟩ | ⟨j, hj, h2, h3, h4, _⟩
    · omega
    have hnj : last'.toNat = j := by omega
    rw [hnj]
    have hct : used + 1 = cnt (ps.set j p) := by
      rw [cnt_set (by omega), if_pos h4, if_neg (by omega), h.ct]
      omega
    have hb := cnt_bnd (ps := ps.set j p) (by rw [List.length_set]; exact hpl)
    refine ⟨⟨by rw [List.length_set]; exact hpl, by rw [List.length_set]; exact hel, by omega, by omega, fun q hq => ?_, fun q => ?_⟩, fun q hq => ?_, hct⟩
    · rw [getD_set (by omega)]
      split
      · exact .inr (by omega)
      · exact h.zt.pr q hq
    · rw [getD_set (by omega)]
      split
      · exact hc
      · exact h.zt.er q
    · rw [getD_set (by omega), if_neg (by omega)]
      exact h.lo q hq

theorem ZI_clr {ps es ps' : List Int} {m' : List Int → Option Int} {last used used' : Int} (h : ZI ps es last used) (hQ : ClrQ ps es used ps' m' used') : ZI ps' es 256 used' := by
  obtain ⟨⟨h1, h2⟩, h3, h4⟩ := hQ
  have hb := cnt_bnd h1
  have hct : used' = cnt ps' := by have := h.ct; omega
  have key : ∀ q, q < 8192 → ps'.getD q 0 = ps.getD q 0 ∨ ps'.getD q 0 = -1 := fun q hq => by
    rcases Classical.em (kept ps q ∨ q ≤ 256) with hk | hk
    · exact .inl ((h2 q hq).1 hk)
    · exact .inr ((h2 q hq).2 hk)
  refine ⟨⟨h1, h.zt.el, by omega, by omega, fun q hq => ?_, h.zt.er⟩, fun q hq => ?_, hct⟩
  · rcases key q hq with hk | hk
    · rw [hk]; exact h.zt.pr q hq
    · exact .inl hk
  · rw [(h2 q (by omega)).1 (.inr hq)]
    exact h.lo q hq

/-! Strings -/
theorem txt_mono {ps es : List Int} : ∀ {k k' : Nat} {c : Int} {t : List Int}, k ≤ k' → txt ps es k c = some t → txt ps es k' c = some t
  | 0, _, _, _, _, h => by cases h
  | k + 1, 0, _, _, hk, _ => by omega
  | k + 1, k' + 1, c, t, hk, h => by
    rw [txt] at h ⊢
    split at h
    · cases h
    · rename_i h1
      rw [if_neg h1]
      split at h
      · rename_i h2; rw [if_pos h2]; exact h
      · rename_i h2
        rw [if_neg h2]
        cases hu : txt ps es k (ps.getD c.toNat 0) with
        | none => rw [hu] at h; cases h
        | some u => rw [txt_mono (by omega) hu]; rw [hu] at h; exact h
theorem txt_uniq {ps es : List Int} {k k' : Nat} {c : Int} {t t' : List Int} (h : txt ps es k c = some t) (h' : txt ps es k' c = some t') : t = t' := by
  have h1 := txt_mono (Nat.le_max_left k k') h
  have h2 := txt_mono (Nat.le_max_right k k') h'
  rw [h1] at h2
  cases h2
  rfl
theorem txt_fuel {ps es : List Int} : ∀ {k m : Nat} {c : Int} {t : List Int}, txt ps es k c = some t → t.length ≤ m → txt ps es m c = some t
  | 0, _, _, _, h, _ => by cases h
  | k + 1, 0, c, t, h, hm => by
    have : t = [] := List.length_eq_zero_iff.1 (by omega)
    subst this
    rw [txt] at h
    split at h
    · cases h
    · split at h
      · cases h
      · cases hu : txt ps es k (ps.getD c.toNat 0) with
        | none => rw [hu] at h; cases h
        | some u => rw [hu] at h; simp at h
  | k + 1, m + 1, c, t, h, hm => by
    rw [txt] at h ⊢
    split at h
    · cases h
    · rename_i h1
      rw [if_neg h1]
      split at h
      · rename_i h2; rw [if_pos h2]; exact h
      · rename_i h2
        rw [if_neg h2]
        cases hu : txt ps es k (ps.getD c.toNat 0) with
        | none => rw [hu] at h; cases h
        | some u =>
          rw [hu] at h
          cases h
          rw [txt_fuel (m := m) hu (by simp at hm; omega)]
          rfl
theorem pig (a : Nat) : ∀ (N : Nat) (L : List Nat), L.Nodup → (∀ x ∈ L, a ≤ x ∧ x < a + N) → L.length ≤ N
  | 0, L, _, h => by
    cases L with
    | nil => simp
    | cons x L => have := h x (by simp); omega
  | N + 1, L, hn, h => by
    have h1 := pig a N (L.erase (a + N)) (hn.erase _) fun x hx => by
      have h2 := (hn.mem_erase_iff).1 hx
      have := h x h2.2
      omega
    by_cases hm : a + N ∈ L
    · rw [List.length_erase_of_mem hm] at h1
      omega
    · rw [List.erase_of_not_mem hm] at h1
      omega
/-- The codes of a string's way. -/
def way (ps : List Int) : Nat → Int → List Nat
  | 0, _ => []
  | k + 1, c => if c < 256 then [] else c.toNat :: way ps k (ps.getD c.toNat 0)
theorem way_spec {ps es : List Int} : ∀ {k : Nat} {c : Int} {t : List Int}, txt ps es k c = some t → t.length = (way ps k c).length + 1 ∧ (way ps k c).Nodup ∧ ∀ x ∈ way ps k c, (257 ≤ x ∧ x < 257 + 7935) ∧ ∃ k' t', txt ps es k' (x : Int) = some t' ∧ t'.length ≤ t.length
  | 0, _, _, h => by cases h
  | k + 1, c, t, h => by
    have h0 := h
    rw [txt] at h
    rw [way]
    split at h
    · cases h
    · rename_i h1
      split at h
      · rename_i h2
        cases h
        rw [if_pos h2]
        exact ⟨rfl, List.nodup_nil, fun x hx => by cases hx⟩
      · rename_i h2
        rw [if_neg h2]
        cases hu : txt ps es k (ps.getD c.toNat 0) with
        | none => rw [hu] at h; cases h
        | some u =>
          rw [hu] at h
          cases h
          obtain ⟨a1, a2, a3⟩ := way_spec hu
          have hc : ((c.toNat : Nat) : Int) = c := by omega
          refine ⟨by rw [List.length_append, a1, List.length_cons]; rfl, List.nodup_cons.2 ⟨fun hx => ?_, a2⟩, fun x hx => ?_⟩
          · obtain ⟨_, k', t', b1, b2⟩ := a3 _ hx
            rw [hc] at b1
            have := txt_uniq h0 b1
            rw [← this] at b2
            simp at b2
            omega
          · rcases List.mem_cons.1 hx with rfl | hx
            · exact ⟨by omega, k + 1, _, by rw [hc]; exact h0, Nat.le_refl _⟩
            · obtain ⟨b0, k', t', b1, b2⟩ := a3 _ hx
              exact ⟨b0, k', t', b1, by simp; omega⟩
/-- No string is longer than there are codes. -/
theorem txt_short {ps es : List Int} {k : Nat} {c : Int} {t : List Int} (h : txt ps es k c = some t) : t.length ≤ 7936 := by
  obtain ⟨h1, h2, h3⟩ := way_spec h
  have := pig 257 7935 _ h2 fun x hx => (h3 x hx).1
  omega
/-- Strings stay where no link does change. -/
theorem txt_stay {ps es ps' es' : List Int} (h : ∀ q, 256 < q → q < 8192 → ps.getD q 0 ≠ -1 → ps'.getD q 0 = ps.getD q 0 ∧ es'.getD q 0 = es.getD q 0) : ∀ {k : Nat} {c : Int} {t : List Int}, txt ps es k c = some t → txt ps' es' k c = some t
  | 0, _, _, hh => by cases hh
  | k + 1, c, t, hh => by
    rw [txt] at hh ⊢
    split at hh
    · cases hh
    · rename_i h1
      rw [if_neg h1]
      split at hh
      · rename_i h2; rw [if_pos h2]; exact hh
      · rename_i h2
        rw [if_neg h2]
        cases hu : txt ps es k (ps.getD c.toNat 0) with
        | none => rw [hu] at hh; cases hh
        | some u =>
          have hne : ps.getD c.toNat 0 ≠ -1 := fun e => by
            rw [e] at hu
            cases k with
            | zero => cases hu
            | succ k => rw [txt, if_pos (by omega)] at hu; cases hu
          obtain ⟨e1, e2⟩ := h c.toNat (by omega) (by omega) hne
          rw [e1, e2, txt_stay h hu]
          rw [hu] at hh
          exact hh
/-- What is given out. -/
structure Grown (ps es : List Int) (last p c n : Int) (ps' es' : List Int) : Prop where
  nx : NxQ ps last n
  rng : 256 < n ∧ n < 8192
  free : ps.getD n.toNat 0 = -1
  pr : 0 ≤ p ∧ p < 8192 ∧ p ≠ 256
  ps_ : ps' = ps.set n.toNat p
  es_ : es' = es.set n.toNat c
theorem Grown.stay {ps es ps' es' : List Int} {last used p c n : Int} (h : ZI ps es last used) (hG : Grown ps es last p c n ps' es') {k : Nat} {x : Int} {t : List Int} (ht : txt ps es k x = some t) : txt ps' es' k x = some t := by
  have hpl := h.zt.pl
  have hel := h.zt.el
  have hr := hG.rng
  refine txt_stay (fun q h1 h2 h3 => ?_) ht
  have hne : n.toNat ≠ q := fun e => h3 (by rw [← e]; exact hG.free)
  rw [hG.ps_, hG.es_, getD_set (by omega), getD_set (by omega), if_neg hne, if_neg hne]
  exact ⟨rfl, rfl⟩
theorem Grown.new {ps es ps' es' : List Int} {last used p c n : Int} (h : ZI ps es last used) (hG : Grown ps es last p c n ps' es') {k : Nat} {t : List Int} (ht : txt ps es k p = some t) : txt ps' es' 8192 n = some (t ++ [c]) := by
  have hpl := h.zt.pl
  have hel := h.zt.el
  have hr := hG.rng
  have h1 := hG.stay h (txt_fuel (m := 8191) ht (by have := txt_short ht; omega))
  rw [show (8192 : Nat) = 8191 + 1 from rfl, txt, if_neg (by omega), if_neg (by omega)]
  have e1 : ps'.getD n.toNat 0 = p := by rw [hG.ps_, getD_set (by omega), if_pos rfl]
  have e2 : es'.getD n.toNat 0 = c := by rw [hG.es_, getD_set (by omega), if_pos rfl]
  rw [e1, e2, h1]
  rfl

/-- No code is beyond so many calls. -/
def ZB (ps : List Int) (last : Int) (a : Nat) : Prop := last ≤ 256 + (a : Int) ∧ ∀ q, 256 + a < q → q < 8192 → ps.getD q 0 = -1
theorem ZB.mono {ps : List Int} {last : Int} {a b : Nat} (h : ZB ps last a) (hab : a ≤ b) : ZB ps last b := ⟨by have := h.1; omega, fun q q1 q2 => h.2 q (by omega) q2⟩
end Go.Sx

/- lzw: calls; lives; played. -/
set_option maxRecDepth 100000
set_option maxHeartbeats 4000000
set_option linter.unusedVariables false
set_option linter.unusedSimpArgs false
namespace Go.Sx
open Go.Proofs.Try

section
variable {A : Ar} {C : CallT} {s : St} {κ : List Nat → SV → List Ck → Prop} {h0 h1 h2 h3 : Nat} {ps es : List Int} {m : List Int → Option Int} {last used : Int}
/-- A table's chunks behind a call. -/
def setT (A : Ar) (H : List Ck) (h0 h1 h2 h3 : Nat) (ps es : List Int) (m : List Int → Option Int) (last used : Int) : List Ck :=
  set1 (set1 (set1 (set1 H h0 (.box 79 [.lst h1 8192, .lst h2 8192, .mapv h3, .int .i64 last, .int .i64 used])) h1 (.lst 3 1 (A.ints .i64 ps))) h2 (.lst 5 1 (A.ints .u8 es))) h3 (.mp [.i64, .u8] m)
theorem call_znew (hC : C = CallX prog) (hA : A = R)
    (hk : ∀ z1 z8 l0 l1, z1 = List.replicate 8192 (-1) → z8 = List.replicate 8192 0 → l0 = len1 s.H → l1 = l0 + 1 → κ [] (.ptr l0 0) (apd s.H [.box 79 [.lst l1 8192, .lst (l1 + 1) 8192, .mapv (l1 + 1 + 1), .int .i64 256, .int .i64 0], .lst 3 1 (A.ints .i64 z1), .lst 5 1 (A.ints .u8 z8), .mp [.i64, .u8] fun _ => none])) : C 21 [] s κ := by
  have hS := s_znew
  rw [← hA] at hS
  refine cal_of hC hS [] trivial trivial trivial ?_
  rintro _ _ ⟨rfl, rfl⟩
  refine ⟨[], .ptr (len1 s.H) 0, _, rfl, ?_, ?_, hk _ _ _ _ rfl rfl rfl rfl⟩
  · rw [len1_eq]; rfl
  · rw [len1_eq, apd_eq]
    simp only [backH, TbH, List.map_cons, List.map_nil, renCk, renA hA, setAll, List.length_nil, List.drop_zero]
    rfl
theorem matchT (hA : A = R) (k : TO A s.H h0 h1 h2 h3 ps es m last used) : matchH 4 (linkOf s.H.length [(h0, 0, true), (h1, 0, true), (h2, 0, true), (h3, 0, true)]) s.H [(h0, 0, true), (h1, 0, true), (h2, 0, true), (h3, 0, true)] (TbH A ps es m last used) := by
  refine ⟨rfl, ⟨(show 1 < 4 by omega), (show 2 < 4 by omega), (show 3 < 4 by omega), trivial, trivial, trivial⟩, ⟨rfl, rfl, trivial, trivial, trivial, trivial⟩, k.o0, rfl, hLtsA hA .., zOksA hA .., ?_, rfl, hLtsA hA .., zOksA hA .., ?_, rfl, trivial, trivial, k.o3, trivial⟩
  · rw [renCk, renA hA]; exact k.o1
  · rw [renCk, renA hA]; exact k.o2
theorem call_zadd (hC : C = CallX prog) (hA : A = R) {p c : Int} (hT : ZT ps es last used) (hne : (h0 ≠ h1 ∧ h0 ≠ h2 ∧ h0 ≠ h3) ∧ (h1 ≠ h2 ∧ h1 ≠ h3) ∧ h2 ≠ h3) (k : TO A s.H h0 h1 h2 h3 ps es m last used)
    (hk : ∀ n ps' es' m' last' used', AddQ ps es m last used p c n ps' es' m' last' used' → κ [h0, h1, h2, h3] (.int .i64 n) (setT A s.H h0 h1 h2 h3 ps' es' m' last' used')) : C 39 [.ptr h0 0, .int .i64 p, .int .u8 c] s κ := by
  have hS := s_zadd ps es m last used p c hT
  rw [← hA] at hS
  refine cal_of hC hS [(h0, 0, true), (h1, 0, true), (h2, 0, true), (h3, 0, true)] ?_ (matchT hA k) ⟨⟨(show 0 < 4 by omega), trivial, rfl⟩, ⟨trivial, trivial, rfl⟩, ⟨trivial, trivial, rfl⟩, trivial⟩ ?_
  · simp only [lkOk, List.mem_cons, List.not_mem_nil, or_false, forall_eq_or_imp, forall_eq]
    have := hne
    simp
    omega
  rintro _ _ ⟨n, ps', es', m', last', used', h, rfl, rfl⟩
  refine ⟨_, _, (((s.H.set h0 (.box 79 [.lst h1 8192, .lst h2 8192, .mapv h3, .int .i64 last', .int .i64 used'])).set h1 (.lst 3 1 (A.ints .i64 ps'))).set h2 (.lst 5 1 (A.ints .u8 es'))).set h3 (.mp [.i64, .u8] m'), rfl, rfl, ?_, ?_⟩
  · simp only [backH, TbH, List.map_cons, List.map_nil, renCk, renA hA, setAll, List.length_cons, List.length_nil, List.drop_succ_cons, List.drop_zero, List.append_nil]
    rfl
  · have := hk n ps' es' m' last' used' h
    unfold setT at this
    rw [set1_eq, set1_eq, set1_eq, set1_eq] at this
    exact this
theorem call_zclear (hC : C = CallX prog) (hA : A = R) (hT : ZT ps es last used) (hne : (h0 ≠ h1 ∧ h0 ≠ h2 ∧ h0 ≠ h3) ∧ (h1 ≠ h2 ∧ h1 ≠ h3) ∧ h2 ≠ h3) (k : TO A s.H h0 h1 h2 h3 ps es m last used)
    (hk : ∀ ps' m' used', ClrQ ps es used ps' m' used' → κ [h0, h1, h2, h3] (.tup []) (setT A s.H h0 h1 h2 h3 ps' es m' 256 used')) : C 50 [.ptr h0 0] s κ := by
  have hS := s_zclear ps es m last used hT
  rw [← hA] at hS
  refine cal_of hC hS [(h0, 0, true), (h1, 0, true), (h2, 0, true), (h3, 0, true)] ?_ (matchT hA k) ⟨⟨(show 0 < 4 by omega), trivial, rfl⟩, trivial⟩ ?_
  · simp only [lkOk, List.mem_cons, List.not_mem_nil, or_false, forall_eq_or_imp, forall_eq]
    have := hne
    simp
    omega
  rintro _ _ ⟨ps', m', used', h, rfl, rfl⟩
  refine ⟨_, _, (((s.H.set h0 (.box 79 [.lst h1 8192, .lst h2 8192, .mapv h3, .int .i64 256, .int .i64 used'])).set h1 (.lst 3 1 (A.ints .i64 ps'))).set h2 (.lst 5 1 (A.ints .u8 es))).set h3 (.mp [.i64, .u8] m'), rfl, rfl, ?_, ?_⟩
  · simp only [backH, TbH, List.map_cons, List.map_nil, renCk, renA hA, setAll, List.length_cons, List.length_nil, List.drop_succ_cons, List.drop_zero, List.append_nil]
    rfl
  · have := hk ps' m' used' h
    unfold setT at this
    rw [set1_eq, set1_eq, set1_eq, set1_eq] at this
    exact this
theorem call_ztext (hC : C = CallX prog) (hA : A = R) (hT : ZT ps es last used) (k : TV A s.H h0 h1 h2 h3 ps es last used) {code : Int}
    (hk : ∀ t b n, TxQ ps es code t b → n = t.length → κ [] (.tup [.lst (len1 s.H) n, .bool b]) (apd s.H [.lst 5 1 (A.ints .u8 t)])) : C 51 [.ptr h0 0, .int .i64 code] s κ := by
  refine cal_of hC (s_ztext ps es last used code hT) [(h0, 0, false), (h1, 0, false), (h2, 0, false), (h3, 0, false)] ?_ (matchV hA k hT) ⟨⟨(show 0 < 4 by omega), trivial, rfl⟩, ⟨trivial, trivial, rfl⟩, trivial⟩ ?_
  · simp [lkOk]
  rintro _ _ ⟨t, b, n, h, hn, rfl, rfl⟩
  refine ⟨[], .tup [.lst (len1 s.H) n, .bool b], s.H ++ [.lst 5 1 (A.ints .u8 t)], rfl, ?_, ?_, ?_⟩
  · rw [len1_eq]; rfl
  · simp only [backH, VH, List.cons_append, List.nil_append, List.map_cons, List.map_nil, renCk, renA rfl, setAll, List.length_cons, List.length_nil, List.drop_succ_cons, List.drop_zero, hA]
  · have := hk t b n h hn
    rw [apd_eq] at this
    exact this
end

end Go.Sx

/- The reader: Bits. -/
set_option maxRecDepth 100000
set_option maxHeartbeats 4000000
set_option linter.unusedVariables false
set_option linter.unusedSimpArgs false
namespace Go.Sx
open Go.Proofs.Try

def BitsQ (xs : List Int) (m p : Nat) (er n : Int) (r : SV) (H : List Ck) : Prop :=
  ∃ (a b p' : Nat) (at_ hold nb er' y : Int), RF xs p' a b at_ hold nb ∧ r = .int .u32 y ∧ H = [.box 76 [.lst 1 m, .int .i64 at_, .int .u64 hold, .int .i64 nb, .int .i64 er', .bool true], .lst 5 1 (R.ints .u8 xs)] ∧
    ((er ≠ 0 ∧ y = 0 ∧ er' = er ∧ p' = p) ∨ (er = 0 ∧ (n < 0 ∨ 32 < n) ∧ y = 0 ∧ er' = 2 ∧ p' = p) ∨ (er = 0 ∧ 0 ≤ n ∧ n ≤ 32 ∧ 8 * (xs.length : Int) < p + n ∧ y = 0 ∧ er' = 3 ∧ p' = p) ∨
      (er = 0 ∧ 0 ≤ n ∧ n ≤ 32 ∧ p + n ≤ 8 * (xs.length : Int) ∧ y = cut (V xs) p n.toNat ∧ er' = 0 ∧ p' = p + n.toNat))

theorem s_bits (xs : List Int) (m p a b : Nat) (hx : RX xs m) (at_ hold nb er n : Int) (hF : RF xs p a b at_ hold nb) :
    Spec prog 49 [.ptr 0 0, .int .i64 n] [.box 76 [.lst 1 m, .int .i64 at_, .int .u64 hold, .int .i64 nb, .int .i64 er, .bool true], .lst 5 1 (R.ints .u8 xs)] (BitsQ xs m p er n) := by
  refine Spec_of_xX (D := fun i => if i = 10 then (7, []) else (0, [])) (ks := [0, 1, 4, 5]) tok mixed (fn := f49) rfl rfl rfl (by kernel_rfl) (N := 40) rfl (rs := [.tmp 4]) rfl (by show 2 ≤ 40; omega) fun A C ag L q hA hC hag hL hq => ?_
  rw [← hA]
  cbv
  refine cal_vw hC (s_err m at_ hold nb er) [(0, 0, false), (1, 0, false)] rfl ?_ ⟨⟨(show 0 < 2 by omega), trivial, rfl⟩, trivial⟩ rfl ?_
  · exact ⟨⟨(show 1 < 2 by omega), trivial, trivial, trivial, trivial, trivial, trivial⟩, ⟨rfl, trivial, trivial, trivial, trivial, trivial, trivial⟩, rfl, trivial, trivial, rfl, trivial⟩
  cbv
  refine ifB_intro (fun h => ?_) (fun h => ?_)
  · cbv
    subst hA hq
    have h : er ≠ 0 := by
      have h : (er != 0) = true := h
      simpa using h
    exact ⟨a, b, p, at_, hold, nb, er, 0, hF, rfl, rfl, .inl ⟨h, rfl, rfl, rfl⟩⟩
  have her : er = 0 := by
    subst hA
    have h : (er != 0) = false := h
    simpa using h
  subst her
  cbv
  refine cal_bool hC (s_right n) ⟨⟨trivial, trivial, rfl⟩, trivial⟩ fun y hy => ?_
  cbv
  refine ifB_intro (fun h' => ?_) (fun h' => ?_)
  · cbv
    subst hA hq
    have h' : (!y) = true := h'
    rw [hy] at h'
    refine ⟨a, b, p, at_, hold, nb, 2, 0, hF, rfl, rfl, .inr (.inl ⟨rfl, ?_, rfl, rfl, rfl⟩)⟩
    simp at h'
    omega
  have hn : 0 ≤ n ∧ n ≤ 32 := by
    subst hA
    have h' : (!y) = false := h'
    rw [hy] at h'
    simpa using h'
  clear hy h' h
  cbv
  have hS := s_fill xs m p a b hx at_ hold nb 0 n hn.2 hF
  rw [← hA] at hS
  refine cal_of hC hS [(0, 0, true), (1, 0, true)] ⟨by simp, by simp, trivial⟩ (matchH2 hA ⟨(show 1 < 2 by omega), trivial, trivial, trivial, trivial, trivial, trivial⟩ ⟨rfl, trivial, trivial, trivial, trivial, trivial, trivial⟩ rfl rfl rfl) ⟨⟨(show 0 < 2 by omega), trivial, rfl⟩, ⟨trivial, trivial, rfl⟩, trivial⟩ ?_
  rintro _ _ ⟨rfl, a, b, at_, hold, nb, hF, hfull, rfl⟩
  refine ⟨_, _, _, rfl, rfl, backH2 hA rfl, ?_⟩
  cbv
  refine ifB_intro (fun h => ?_) (fun h => ?_)
  · cbv
    subst hA hq
    have h : nb < n := of_decide_eq_true h
    refine ⟨a, b, p, at_, hold, nb, 3, 0, hF, rfl, rfl, .inr (.inr (.inl ⟨rfl, hn.1, hn.2, ?_, rfl, rfl, rfl⟩))⟩
    obtain ⟨h1, h2, h3, h4, h5, h6⟩ := hF
    obtain ⟨-, hm, -⟩ := hx
    omega
  have hnb : n ≤ nb := by
    subst hA
    have h : ¬ nb < n := of_decide_eq_false h
    omega
  clear h hfull hS
  cbv
  refine ⟨by subst hA; exact hn.1, ?_⟩
  have hS := s_drop m xs at_ hold nb 0 n hn.1
  rw [← hA] at hS
  refine cal_of hC hS [(0, 0, true), (1, 0, true)] ⟨by simp, by simp, trivial⟩ (matchH2 hA ⟨(show 1 < 2 by omega), trivial, trivial, trivial, trivial, trivial, trivial⟩ ⟨rfl, trivial, trivial, trivial, trivial, trivial, trivial⟩ rfl rfl rfl) ⟨⟨(show 0 < 2 by omega), trivial, rfl⟩, ⟨trivial, trivial, rfl⟩, trivial⟩ ?_
  rintro _ _ ⟨rfl, rfl⟩
  refine ⟨_, _, _, rfl, rfl, backH2 hA rfl, ?_⟩
  obtain ⟨u, hu⟩ : ∃ u, u = shrI .u64 hold n := ⟨_, rfl⟩
  obtain ⟨v, hv⟩ : ∃ v, v = IntKind.i64.wrap (nb - n) := ⟨_, rfl⟩
  rw [← hu, ← hv]
  cbv
  subst hA hq
  obtain ⟨h1, h2, h3, h4, h5, h6⟩ := hF
  obtain ⟨hb, hm, hl⟩ := hx
  obtain ⟨k, rfl⟩ : ∃ k : Nat, n = k := ⟨n.toNat, by omega⟩
  have hkb : k ≤ b := by omega
  have hc0 := cut_nonneg (V_bnd hb).1 p b
  have hc1 := cut_lt (V xs) p b
  have hq : (2 : Int) ^ b ≤ 2 ^ 39 := by exact_mod_cast Nat.pow_le_pow_right (by decide) h5
  have hq39 : (2 : Int) ^ 39 = 549755813888 := by decide
  have hqk : (2 : Int) ^ k ≤ 2 ^ 32 := by exact_mod_cast Nat.pow_le_pow_right (by decide) (by omega)
  have hq32 : (2 : Int) ^ 32 = 4294967296 := by decide
  refine ⟨a, b - k, p + k, at_, u, v, 0, _, ⟨h1, ?_, by omega, h4, by omega, ?_⟩, rfl, rfl, .inr (.inr (.inr ⟨rfl, hn.1, hn.2, by omega, ?_, rfl, by omega⟩))⟩
  · rw [hv, wrap64 (by omega)]; omega
  · rw [hu, shr64 (by omega), h6, cut_drop _ _ _ _ hkb]
  · show IntKind.u32.wrap (band .u64 hold (IntKind.u64.wrap (shlI .u64 1 k - 1))) = _
    rw [mask64 (by omega) (by omega) (by omega), h6, cut_cut _ _ _ _ hkb]
    have := cut_nonneg (V_bnd hb).1 p k
    have := cut_lt (V xs) p k
    rw [wrapu32 (by omega), Int.toNat_natCast]
end Go.Sx

/- Open, and that any bit is read at all. -/
set_option maxRecDepth 100000
set_option maxHeartbeats 4000000
set_option linter.unusedVariables false
set_option linter.unusedSimpArgs false
namespace Go.Sx
open Go.Proofs.Try

theorem s_clone (xs : List Int) (m : Nat) (hm : m = xs.length) (hl : xs.length ≤ 1000000000000) : Spec prog 33 [.sl 0 0 m false] [.vw (R.ints .u8 xs)]
    (fun r H => r = .lst 2 m ∧ H = [.vw (R.ints .u8 xs), .gone, .lst 5 1 (R.ints .u8 xs)]) := by
  refine Spec.of_nil2 5 1 ?_
  refine Spec_of_xX (D := fun i => (0, [])) (ks := [0, 2]) tok mixed (fn := f33) rfl rfl rfl (by kernel_rfl) (N := 8) rfl (rs := [.tmp 2]) rfl (by show 1 ≤ 8; omega) fun A C ag L q hA hC hag hL hq => ?_
  rw [← hA]
  cbv
  have hsub := subA hA (k := .u8) (xs := xs) (o := 0) (n := m) (by omega)
  obtain ⟨ys, hys⟩ : ∃ ys, ys = (xs.drop 0).take m := ⟨_, rfl⟩
  rw [← hys] at hsub
  have main : A.len [] 0 1 ∧ A.fit (A.add 0 m) 1 ∧ q (.lst 2 (A.add 0 m)) [.vw (A.ints .u8 xs), .gone, .lst 5 1 (A.ints .u8 ys)] := by
    subst hA hq
    refine ⟨rfl, ?_, .inl ⟨?_, ?_⟩⟩
    · show (0 + m) * 1 ≤ room
      unfold room; omega
    · show SV.lst 2 (0 + m) = _
      rw [Nat.zero_add]
    · rw [hys, List.drop_zero, hm, List.take_length]
  refine ifB_intro (fun h => ?_) (fun h => ?_)
  · cbv
    refine bindO_some hsub (guardB_true (scA hA ..) ?_)
    cbv
    exact main
  · refine ⟨?_, ?_⟩
    · cbv
      refine bindO_some hsub (guardB_true (scA hA ..) ?_)
      cbv
      exact main
    · cbv
      subst hA hq
      have h : ¬ 0 < m := of_decide_eq_false h
      have h0 : m = 0 := by omega
      have hx : xs = [] := List.eq_nil_of_length_eq_zero (by omega)
      subst hx h0
      exact .inr ⟨rfl, rfl, rfl⟩

theorem s_open (xs : List Int) (m : Nat) (hx : RX xs m) : Spec prog 20 [.sl 0 0 m false] [.vw (R.ints .u8 xs)]
    (fun r H => r = .ptr 3 0 ∧ H = [.vw (R.ints .u8 xs), .gone, .lst 5 1 (R.ints .u8 xs), .box 76 [.lst 2 m, .int .i64 0, .int .u64 0, .int .i64 0, .int .i64 0, .bool true]]) := by
  refine Spec_of_xX (D := fun i => (0, [])) (ks := [0, 2]) tok mixed (fn := f20) rfl rfl rfl (by kernel_rfl) (N := 7) rfl (rs := [.tmp 2]) rfl (by show 1 ≤ 7; omega) fun A C ag L q hA hC hag hL hq => ?_
  have hS := s_clone xs m hx.2.1 hx.2.2
  rw [← hA] at hS ⊢
  cbv
  refine cal_of hC hS [(0, 0, false)] ⟨by simp, trivial⟩ ⟨hLtsA hA .., zOksA hA .., ?_, trivial⟩ ⟨⟨(show 0 < 1 by omega), rfl, rfl, rfl⟩, trivial⟩ ?_
  · rw [renA hA, cellsAt_eq rfl (by simp [Ck.cells])]
    simp [Ck.cells]
  rintro _ _ ⟨rfl, rfl⟩
  refine ⟨_, _, [.vw (A.ints .u8 xs), .gone, .lst 5 1 (A.ints .u8 xs)], rfl, rfl, ?_, ?_⟩
  · simp only [backH, List.map_cons, List.map_nil, renCk, renA hA]
    rfl
  cbv
  subst hA hq
  exact ⟨rfl, rfl⟩
end Go.Sx

/- The reader's other functions, and calls of them. -/
set_option maxRecDepth 100000
set_option maxHeartbeats 4000000
set_option linter.unusedVariables false
set_option linter.unusedSimpArgs false
namespace Go.Sx
open Go.Proofs.Try

theorem s_cut (xs : List Int) (m : Nat) (n : Int) (h0 : 0 ≤ n) : Spec prog 8 [.sl 0 0 m false, .int .i64 n] [.vw (R.ints .u8 xs)]
    (fun r H => ∃ k : Nat, k = min m n.toNat ∧ r = .sl 0 0 k false ∧ H = [.vw (R.ints .u8 xs)]) := by
  refine Spec_of_xX (D := fun _ => (0, [])) (ks := [0, 1, 4]) tok mixed (fn := f8) rfl rfl rfl (by kernel_rfl) (N := 13) rfl (rs := [.tmp 4]) rfl (by show 2 ≤ 13; omega) fun A C ag L q hA hC hag hL hq => ?_
  rw [← hA]
  cbv
  refine ifB_intro (fun h => ?_) (fun h => ?_)
  · cbv
    subst hA hq
    have h : n < (m : Int) := of_decide_eq_true h
    refine ⟨(by decide : (0 : Int) ≤ 0), h0, (by show n ≤ (m : Int); omega), _, ?_, rfl, rfl⟩
    show (n - 0).toNat = _
    omega
  · cbv
    subst hA hq
    have h : ¬ n < (m : Int) := of_decide_eq_false h
    exact ⟨m, by omega, rfl, rfl⟩

section
variable {A : Ar} {C : CallT} {xs : List Int} {m p a b : Nat} {at_ hold nb er : Int} {hb hr : Nat} {s : St} {κ : List Nat → SV → List Ck → Prop}

theorem rdV {g : Nat → Nat × Nat} {n : Nat} (h4 : s.H[hb]? = some (.box 76 [.lst hr m, .int .i64 at_, .int .u64 hold, .int .i64 nb, .int .i64 er, .bool true])) (hr' : hr < s.H.length) :
    matchH 2 (linkOf n [(hb, 0, false), (hr, 0, false)]) s.H [(hb, 0, false), (hr, 0, false)] [.vw [.lst 1 m, .int .i64 at_, .int .u64 hold, .int .i64 nb, .int .i64 er, .bool true], .vw []] := by
  refine ⟨⟨(show 1 < 2 by omega), trivial, trivial, trivial, trivial, trivial, trivial⟩, ⟨rfl, trivial, trivial, trivial, trivial, trivial, trivial⟩, ?_, trivial, trivial, ?_, trivial⟩
  · rw [cellsAt_eq h4 (by simp [Ck.cells])]; rfl
  · rw [cellsAt_eq (List.getElem?_eq_getElem hr') (by simp)]; rfl

theorem vwD {g : Nat → Nat × Nat} {n : Nat} (h4 : s.H[hb]? = some (.vw [.lst hr m, .int .i64 at_, .int .u64 hold, .int .i64 nb, .int .i64 er, .bool true])) (hr' : hr < s.H.length) :
    matchH 2 (linkOf n [(hb, 0, false), (hr, 0, false)]) s.H [(hb, 0, false), (hr, 0, false)] [.vw [.lst 1 m, .int .i64 at_, .int .u64 hold, .int .i64 nb, .int .i64 er, .bool true], .vw []] := by
  refine ⟨⟨(show 1 < 2 by omega), trivial, trivial, trivial, trivial, trivial, trivial⟩, ⟨rfl, trivial, trivial, trivial, trivial, trivial, trivial⟩, ?_, trivial, trivial, ?_, trivial⟩
  · rw [cellsAt_eq h4 (by simp [Ck.cells])]; rfl
  · rw [cellsAt_eq (List.getElem?_eq_getElem hr') (by simp)]; rfl

theorem call_err (hC : C = CallX prog) (h4 : s.H[hb]? = some (.box 76 [.lst hr m, .int .i64 at_, .int .u64 hold, .int .i64 nb, .int .i64 er, .bool true])) (hr' : hr < s.H.length) (hk : κ [] (.int .i64 er) s.H) : C 40 [.ptr hb 0] s κ :=
  cal_vw hC (s_err m at_ hold nb er) [(hb, 0, false), (hr, 0, false)] rfl (rdV (g := fun h => (h, 0)) h4 hr') ⟨⟨(show 0 < 2 by omega), trivial, rfl⟩, trivial⟩ rfl hk
end

theorem s_left (m : Nat) (at_ hold nb er : Int) : Spec prog 24 [.ptr 0 0] [.vw [.lst 1 m, .int .i64 at_, .int .u64 hold, .int .i64 nb, .int .i64 er, .bool true], .vw []]
    (fun r H => r = .int .i64 (if er = 0 then IntKind.i64.wrap (nb + IntKind.i64.wrap (8 * IntKind.i64.wrap (m - at_))) else 0) ∧ H = [.vw [.lst 1 m, .int .i64 at_, .int .u64 hold, .int .i64 nb, .int .i64 er, .bool true], .vw []]) := by
  refine Spec_of_xX (D := fun i => if i = 3 then (15, []) else (0, [])) (ks := [0, 2]) tok mixed (fn := f24) rfl rfl rfl (by kernel_rfl) (N := 22) rfl (rs := [.tmp 2]) rfl (by show 1 ≤ 22; omega) fun A C ag L q hA hC hag hL hq => ?_
  cbv
  refine cal_vw hC (s_err m at_ hold nb er) [(0, 0, false), (1, 0, false)] rfl (vwD (g := fun h => (h, 0)) rfl (by show 1 < 2; omega)) ⟨⟨(show 0 < 2 by omega), trivial, rfl⟩, trivial⟩ rfl ?_
  cbv
  refine ifB_intro (fun h => ?_) (fun h => ?_)
  · cbv
    subst hA hq
    have h : (er != 0) = true := h
    have h : er ≠ 0 := by simpa using h
    exact ⟨by rw [if_neg h], rfl⟩
  · cbv
    subst hA hq
    have h : (er != 0) = false := h
    have h : er = 0 := by simpa using h
    exact ⟨by rw [if_pos h]; rfl, rfl⟩

/-- How many bits are left. -/
def leftI (n p : Nat) (er : Int) : Int := if er = 0 then 8 * n - p else 0

section
variable {A : Ar} {C : CallT} {xs : List Int} {m p a b : Nat} {at_ hold nb er : Int} {hb hr : Nat} {s : St} {κ : List Nat → SV → List Ck → Prop}

theorem call_left (hC : C = CallX prog) (hx : RX xs m) (hF : RF xs p a b at_ hold nb) (h4 : s.H[hb]? = some (.box 76 [.lst hr m, .int .i64 at_, .int .u64 hold, .int .i64 nb, .int .i64 er, .bool true])) (hr' : hr < s.H.length) (hk : ∀ y, y = leftI xs.length p er → κ [] (.int .i64 y) s.H) : C 24 [.ptr hb 0] s κ := by
  refine cal_vw hC (s_left m at_ hold nb er) [(hb, 0, false), (hr, 0, false)] rfl (rdV (g := fun h => (h, 0)) h4 hr') ⟨⟨(show 0 < 2 by omega), trivial, rfl⟩, trivial⟩ rfl (hk _ ?_)
  unfold leftI
  obtain ⟨h1, h2, h3, h4, h5, h6⟩ := hF
  obtain ⟨hb, hm, hl⟩ := hx
  split
  · rw [wrap64 (n := m - at_) (by omega), wrap64 (n := 8 * _) (by omega), wrap64 (by omega)]; omega
  · rfl

theorem call_bits (hC : C = CallX prog) (hA : A = R) {n : Int} (hx : RX xs m) (hF : RF xs p a b at_ hold nb) (hne : hb ≠ hr) (h4 : s.H[hb]? = some (.box 76 [.lst hr m, .int .i64 at_, .int .u64 hold, .int .i64 nb, .int .i64 er, .bool true])) (h5 : s.H[hr]? = some (.lst 5 1 (A.ints .u8 xs)))
    (hk : ∀ (a b p' : Nat) (at_ hold nb er' y : Int), RF xs p' a b at_ hold nb → 
      ((er ≠ 0 ∧ y = 0 ∧ er' = er ∧ p' = p) ∨ (er = 0 ∧ (n < 0 ∨ 32 < n) ∧ y = 0 ∧ er' = 2 ∧ p' = p) ∨ (er = 0 ∧ 0 ≤ n ∧ n ≤ 32 ∧ 8 * (xs.length : Int) < p + n ∧ y = 0 ∧ er' = 3 ∧ p' = p) ∨
      (er = 0 ∧ 0 ≤ n ∧ n ≤ 32 ∧ p + n ≤ 8 * (xs.length : Int) ∧ y = cut (V xs) p n.toNat ∧ er' = 0 ∧ p' = p + n.toNat)) →
      κ [hb, hr] (.int .u32 y) (set1 (set1 s.H hb (.box 76 [.lst hr m, .int .i64 at_, .int .u64 hold, .int .i64 nb, .int .i64 er', .bool true])) hr (.lst 5 1 (A.ints .u8 xs)))) : C 49 [.ptr hb 0, .int .i64 n] s κ := by
  have hS := s_bits xs m p a b hx at_ hold nb er n hF
  rw [← hA] at hS
  refine cal_of hC hS [(hb, 0, true), (hr, 0, true)] ⟨by simp [hne], by simp, trivial⟩ (matchH2 hA ⟨(show 1 < 2 by omega), trivial, trivial, trivial, trivial, trivial, trivial⟩ ⟨rfl, trivial, trivial, trivial, trivial, trivial, trivial⟩ rfl h4 h5) ⟨⟨(show 0 < 2 by omega), trivial, rfl⟩, ⟨trivial, trivial, rfl⟩, trivial⟩ ?_
  rintro _ _ ⟨a, b, p', at_, hold, nb, er', y, hF', rfl, rfl, hQ⟩
  rw [← hA]
  refine ⟨_, _, _, rfl, rfl, backH2 hA rfl, ?_⟩
  have := hk a b p' at_ hold nb er' y hF' hQ
  rw [set1_eq, set1_eq] at this
  exact this
end

section
variable {A : Ar} {C : CallT} {xs : List Int} {m p a b : Nat} {at_ hold nb er : Int} {hb hr : Nat} {s : St} {κ : List Nat → SV → List Ck → Prop}
/-- Open, of a window that is looked at. -/
theorem call_open (hC : C = CallX prog) (hA : A = R) {k : Nat} {cl : Bool} {ys : List Int} (hx : RX xs k) (h4 : s.H[hb]? = some (.vw (A.ints .u8 ys))) (hxy : xs = ys.take k) (hky : k ≤ ys.length)
    (hk : κ [] (.ptr (len1 s.H + 2) 0) (apd s.H [.gone, .lst 5 1 (A.ints .u8 xs), .box 76 [.lst (len1 s.H + 1) k, .int .i64 0, .int .u64 0, .int .i64 0, .int .i64 0, .bool true]])) : C 20 [.sl hb 0 k cl] s κ := by
  have hS := s_open xs k hx
  rw [← hA] at hS
  refine cal_of hC hS [(hb, 0, false)] ⟨by simp, trivial⟩ ⟨hLtsA hA .., zOksA hA .., ?_, trivial⟩ ⟨⟨(show 0 < 1 by omega), rfl, rfl, rfl⟩, trivial⟩ ?_
  · subst hA
    rw [cellsAt_eq h4 (by rw [R_ints_length]; show 0 + _ ≤ (R.ints .u8 ys).length; rw [R_ints_length, hxy]; simp; omega), R_ints_length, R_ints_ren]
    show some (((R.ints .u8 ys).drop 0).take xs.length) = some (R.ints .u8 xs)
    rw [List.drop_zero]
    show some ((ints .u8 ys).take xs.length) = some (ints .u8 xs)
    rw [ints_take, ← hx.2.1, hxy]
  rintro _ _ ⟨rfl, rfl⟩
  refine ⟨_, _, s.H ++ [.gone, .lst 5 1 (A.ints .u8 xs), .box 76 [.lst (s.H.length + 1) k, .int .i64 0, .int .u64 0, .int .i64 0, .int .i64 0, .bool true]], rfl, rfl, ?_, ?_⟩
  · simp only [backH, List.map_cons, List.map_nil, renCk, renA hA]
    rfl
  · rw [len1_eq, apd_eq] at hk
    exact hk
end
end Go.Sx

/- Bits in the other order: contracts. -/
set_option maxRecDepth 100000
set_option maxHeartbeats 4000000
namespace Go.Sx
open Go.Proofs.Try

def rby (x : Int) : Int :=
  let y := bor .u32 (band .u32 (shrI .u32 x 8) 16711935) (shlI .u32 (band .u32 x 16711935) 8)
  bor .u32 (shrI .u32 y 16) (shlI .u32 y 16)
def rv (x : Int) : Int :=
  let y := bor .u32 (band .u32 (shrI .u32 x 1) 1431655765) (shlI .u32 (band .u32 x 1431655765) 1)
  let z := bor .u32 (band .u32 (shrI .u32 y 2) 858993459) (shlI .u32 (band .u32 y 858993459) 2)
  let u := bor .u32 (band .u32 (shrI .u32 z 4) 252645135) (shlI .u32 (band .u32 z 252645135) 4)
  rby u

def tn (x n : Int) : Int := IntKind.u32.wrap (shrI .u64 (IntKind.u64.wrap (rv x)) (IntKind.i64.wrap (32 - (if 32 < (if n < 0 then 0 else n) then 32 else (if n < 0 then 0 else n)))))

/-- What the document's turn holds behind so many rounds. -/
def T (x : Int) : Nat → Int
  | 0 => 0
  | i + 1 => IntKind.u32.wrap (IntKind.u32.wrap (T x i * 2) + ((x / 2 ^ i).tmod 2))

end Go.Sx

/- The document's own reader (01): contracts. -/
set_option maxRecDepth 100000
set_option maxHeartbeats 4000000
set_option linter.unusedVariables false
set_option linter.unusedSimpArgs false
namespace Go.Sx
open Go.Proofs.Try

theorem cut_byte {xs : List Int} (hb : Byt xs) {q : Nat} (hq : q < xs.length) : cut (V xs) (8 * q) 8 = xs.getD q 0 := by
  have := cut_succ hb (a := q) (b := 0) (p := 8 * q) hq (by omega)
  rw [Nat.zero_add] at this
  rw [this]
  unfold cut
  simp [Int.emod_one]
theorem at_eq {xs : List Int} (hb : Byt xs) {i : Nat} (hi : i / 8 < xs.length) : xs.getD (i / 8) 0 / 2 ^ (i % 8) % 2 = cut (V xs) i 1 := by
  rw [← cut_byte hb hi, cut_drop _ _ _ _ (by omega)]
  have := cut_cut (V xs) (8 * (i / 8) + i % 8) (8 - i % 8) 1 (by omega)
  rw [show 8 * (i / 8) + i % 8 = i by omega] at this ⊢
  exact this
theorem cut_end {xs : List Int} (hb : Byt xs) {i n : Nat} (hi : 8 * xs.length ≤ i) : cut (V xs) i n = 0 := by
  have hv := V_bnd hb
  have hq : (2 : Int) ^ (8 * xs.length) ≤ 2 ^ i := by exact_mod_cast Nat.pow_le_pow_right (by decide) hi
  unfold cut
  rw [Int.ediv_eq_zero_of_lt hv.1 (by omega), Int.zero_emod]
theorem cut_down (v : Int) (p k : Nat) : cut v p (k + 1) = cut v p 1 + 2 * cut v (p + 1) k := by
  have h1 := cut_cut v p (k + 1) 1 (by omega)
  have h2 := cut_drop v p (k + 1) 1 (by omega)
  rw [Nat.add_sub_cancel] at h2
  rw [← h1, ← h2]
  have : (2 : Int) ^ 1 = 2 := rfl
  omega

theorem tdiv_nn {a b : Int} (ha : 0 ≤ a) : a.tdiv b = a / b := Int.tdiv_eq_ediv_of_nonneg ha
theorem tmod_nn {a b : Int} (ha : 0 ≤ a) : a.tmod b = a % b := Int.tmod_eq_emod_of_nonneg ha

theorem s_rat (xs : List Int) (m : Nat) (hb : Byt xs) (hm : m = xs.length) (i : Int) (h0 : 0 ≤ i) (h1 : i ≤ 100000000000000) : Spec prog 67 [.sl 0 0 m false, .int .i64 i] [.vw (R.ints .u8 xs)]
    (fun r H => r = .int .u32 (cut (V xs) i.toNat 1) ∧ H = [.vw (R.ints .u8 xs)]) := by
  refine Spec_of_kX (D := fun i => (0, [])) (ks := [0, 1, 4]) tok mixed (fn := f67) rfl rfl rfl (by kernel_rfl) (N := 21) rfl (rs := [.tmp 4]) rfl (Nat.le_of_ble_eq_true rfl) fun A C Kp E ag L q hA hC hK hE hag hL hq => ?_
  rw [← hA]
  have e8 : A.bin .quo .i64 i 8 = i / 8 := by
    rw [quoA hA, tdiv_nn h0]; exact wrap64 (by omega)
  cbv
  refine ⟨by (first | omega | (try simp only [natA hA, lssA hA, leqA hA, gtrA hA, geqA hA, eqlA hA, neqA hA, notA hA, beqA hA, decide_eq_true_eq, decide_eq_false_iff_not, beq_iff_eq, beq_eq_false_iff_ne, bne_iff_ne, bne_eq_false_iff_eq, Bool.not_eq_true', Bool.not_eq_false', ncast, Int.not_lt, Int.not_le, ne_eq, not_true_eq_false, not_false_eq_true, false_or, true_and, addA hA, subA' hA, inrA hA, ge0A hA, ne0A hA, leIA hA, ixA hA, cntA hA, addNA hA, tnA hA, posA hA, Go.IntKind.wrap_i64] at *) <;> omega | (try simp only [decide_eq_true_eq, decide_eq_false_iff_not, beq_iff_eq, beq_eq_false_iff_ne, bne_iff_ne, bne_eq_false_iff_eq, Bool.not_eq_true', Bool.not_eq_false', ncast, Int.not_lt, Int.not_le, ne_eq, not_true_eq_false, not_false_eq_true, false_or, true_and, Go.IntKind.wrap_i64] at *) <;> omega), ?_⟩
  refine ifB_intro (fun h => ?_) (fun h => ?_)
  · have hc : (m : Int) ≤ i / 8 := by
      simp only [e8, natA hA, lssA hA, leqA hA, gtrA hA, geqA hA, eqlA hA, neqA hA, notA hA, beqA hA, decide_eq_true_eq, decide_eq_false_iff_not, beq_iff_eq, beq_eq_false_iff_ne, bne_iff_ne, bne_eq_false_iff_eq, Bool.not_eq_true', Bool.not_eq_false', ncast, Int.not_lt, Int.not_le, ne_eq, not_true_eq_false, not_false_eq_true, false_or, true_and] at h
      exact h
    (try rw [h]); clear h
    cbv
    subst hA hq
    refine ⟨?_, rfl⟩
    rw [cut_end hb (by (first | omega | (try simp only [natA hA, lssA hA, leqA hA, gtrA hA, geqA hA, eqlA hA, neqA hA, notA hA, beqA hA, decide_eq_true_eq, decide_eq_false_iff_not, beq_iff_eq, beq_eq_false_iff_ne, bne_iff_ne, bne_eq_false_iff_eq, Bool.not_eq_true', Bool.not_eq_false', ncast, Int.not_lt, Int.not_le, ne_eq, not_true_eq_false, not_false_eq_true, false_or, true_and, addA hA, subA' hA, inrA hA, ge0A hA, ne0A hA, leIA hA, ixA hA, cntA hA, addNA hA, tnA hA, posA hA, Go.IntKind.wrap_i64] at *) <;> omega | (try simp only [decide_eq_true_eq, decide_eq_false_iff_not, beq_iff_eq, beq_eq_false_iff_ne, bne_iff_ne, bne_eq_false_iff_eq, Bool.not_eq_true', Bool.not_eq_false', ncast, Int.not_lt, Int.not_le, ne_eq, not_true_eq_false, not_false_eq_true, false_or, true_and, Go.IntKind.wrap_i64] at *) <;> omega))]
  have hc : i / 8 < (m : Int) := by
    simp only [e8, natA hA, lssA hA, leqA hA, gtrA hA, geqA hA, eqlA hA, neqA hA, notA hA, beqA hA, decide_eq_true_eq, decide_eq_false_iff_not, beq_iff_eq, beq_eq_false_iff_ne, bne_iff_ne, bne_eq_false_iff_eq, Bool.not_eq_true', Bool.not_eq_false', ncast, Int.not_lt, Int.not_le, ne_eq, not_true_eq_false, not_false_eq_true, false_or, true_and] at h
    exact h
  (try rw [h]); clear h
  cbv
  refine ⟨by (first | omega | (try simp only [natA hA, lssA hA, leqA hA, gtrA hA, geqA hA, eqlA hA, neqA hA, notA hA, beqA hA, decide_eq_true_eq, decide_eq_false_iff_not, beq_iff_eq, beq_eq_false_iff_ne, bne_iff_ne, bne_eq_false_iff_eq, Bool.not_eq_true', Bool.not_eq_false', ncast, Int.not_lt, Int.not_le, ne_eq, not_true_eq_false, not_false_eq_true, false_or, true_and, addA hA, subA' hA, inrA hA, ge0A hA, ne0A hA, leIA hA, ixA hA, cntA hA, addNA hA, tnA hA, posA hA, Go.IntKind.wrap_i64] at *) <;> omega | (try simp only [decide_eq_true_eq, decide_eq_false_iff_not, beq_iff_eq, beq_eq_false_iff_ne, bne_iff_ne, bne_eq_false_iff_eq, Bool.not_eq_true', Bool.not_eq_false', ncast, Int.not_lt, Int.not_le, ne_eq, not_true_eq_false, not_false_eq_true, false_or, true_and, Go.IntKind.wrap_i64] at *) <;> omega), ?_⟩
  refine rdA hA (n := m) (o := 0) (xs := xs) (i := A.bin .quo .i64 i 8) (by rw [e8]; (first | omega | (try simp only [natA hA, lssA hA, leqA hA, gtrA hA, geqA hA, eqlA hA, neqA hA, notA hA, beqA hA, decide_eq_true_eq, decide_eq_false_iff_not, beq_iff_eq, beq_eq_false_iff_ne, bne_iff_ne, bne_eq_false_iff_eq, Bool.not_eq_true', Bool.not_eq_false', ncast, Int.not_lt, Int.not_le, ne_eq, not_true_eq_false, not_false_eq_true, false_or, true_and, addA hA, subA' hA, inrA hA, ge0A hA, ne0A hA, leIA hA, ixA hA, cntA hA, addNA hA, tnA hA, posA hA, Go.IntKind.wrap_i64] at *) <;> omega | (try simp only [decide_eq_true_eq, decide_eq_false_iff_not, beq_iff_eq, beq_eq_false_iff_ne, bne_iff_ne, bne_eq_false_iff_eq, Bool.not_eq_true', Bool.not_eq_false', ncast, Int.not_lt, Int.not_le, ne_eq, not_true_eq_false, not_false_eq_true, false_or, true_and, Go.IntKind.wrap_i64] at *) <;> omega)) (by rw [e8]; (first | omega | (try simp only [natA hA, lssA hA, leqA hA, gtrA hA, geqA hA, eqlA hA, neqA hA, notA hA, beqA hA, decide_eq_true_eq, decide_eq_false_iff_not, beq_iff_eq, beq_eq_false_iff_ne, bne_iff_ne, bne_eq_false_iff_eq, Bool.not_eq_true', Bool.not_eq_false', ncast, Int.not_lt, Int.not_le, ne_eq, not_true_eq_false, not_false_eq_true, false_or, true_and, addA hA, subA' hA, inrA hA, ge0A hA, ne0A hA, leIA hA, ixA hA, cntA hA, addNA hA, tnA hA, posA hA, Go.IntKind.wrap_i64] at *) <;> omega | (try simp only [decide_eq_true_eq, decide_eq_false_iff_not, beq_iff_eq, beq_eq_false_iff_ne, bne_iff_ne, bne_eq_false_iff_eq, Bool.not_eq_true', Bool.not_eq_false', ncast, Int.not_lt, Int.not_le, ne_eq, not_true_eq_false, not_false_eq_true, false_or, true_and, Go.IntKind.wrap_i64] at *) <;> omega)) fun b hbv => ?_
  rw [e8] at hbv
  have hby : 0 ≤ b ∧ b < 256 := by
    have := hb.get (i := 0 + (i / 8).toNat) (by (first | omega | (try simp only [natA hA, lssA hA, leqA hA, gtrA hA, geqA hA, eqlA hA, neqA hA, notA hA, beqA hA, decide_eq_true_eq, decide_eq_false_iff_not, beq_iff_eq, beq_eq_false_iff_ne, bne_iff_ne, bne_eq_false_iff_eq, Bool.not_eq_true', Bool.not_eq_false', ncast, Int.not_lt, Int.not_le, ne_eq, not_true_eq_false, not_false_eq_true, false_or, true_and, addA hA, subA' hA, inrA hA, ge0A hA, ne0A hA, leIA hA, ixA hA, cntA hA, addNA hA, tnA hA, posA hA, Go.IntKind.wrap_i64] at *) <;> omega | (try simp only [decide_eq_true_eq, decide_eq_false_iff_not, beq_iff_eq, beq_eq_false_iff_ne, bne_iff_ne, bne_eq_false_iff_eq, Bool.not_eq_true', Bool.not_eq_false', ncast, Int.not_lt, Int.not_le, ne_eq, not_true_eq_false, not_false_eq_true, false_or, true_and, Go.IntKind.wrap_i64] at *) <;> omega))
    rw [← hbv] at this
    exact this
  cbv
  subst hA hq
  refine ⟨(by decide : (8 : Int) ≠ 0), ?_, (by decide : (2 : Int) ≠ 0), ?_, rfl⟩
  · show 0 ≤ IntKind.u64.wrap (i.tmod 8)
    rw [tmod_nn h0, wrapu64 (by omega)]
    omega
  · show SV.int .u32 ((shrI .u32 (IntKind.u32.wrap b) (IntKind.u64.wrap (i.tmod 8))).tmod 2) = _
    rw [tmod_nn h0, wrapu64 (by omega), wrapu32 (by omega)]
    have hr : (i % 8) = ((i.toNat % 8 : Nat) : Int) := by omega
    have es : shrI .u32 b (i % 8) = b / 2 ^ (i.toNat % 8) := by
      unfold shrI
      rw [hr, show min ((i.toNat % 8 : Nat) : Int).toNat IntKind.u32.bits = i.toNat % 8 by show min _ 32 = _; omega, Int.fdiv_eq_ediv_of_nonneg _ (Int.le_of_lt (pow_pos2 _))]
    rw [es, tmod_nn (Int.ediv_nonneg hby.1 (Int.le_of_lt (pow_pos2 _)))]
    have := at_eq hb (i := i.toNat) (by (first | omega | (try simp only [natA hA, lssA hA, leqA hA, gtrA hA, geqA hA, eqlA hA, neqA hA, notA hA, beqA hA, decide_eq_true_eq, decide_eq_false_iff_not, beq_iff_eq, beq_eq_false_iff_ne, bne_iff_ne, bne_eq_false_iff_eq, Bool.not_eq_true', Bool.not_eq_false', ncast, Int.not_lt, Int.not_le, ne_eq, not_true_eq_false, not_false_eq_true, false_or, true_and, addA hA, subA' hA, inrA hA, ge0A hA, ne0A hA, leIA hA, ixA hA, cntA hA, addNA hA, tnA hA, posA hA, Go.IntKind.wrap_i64] at *) <;> omega | (try simp only [decide_eq_true_eq, decide_eq_false_iff_not, beq_iff_eq, beq_eq_false_iff_ne, bne_iff_ne, bne_eq_false_iff_eq, Bool.not_eq_true', Bool.not_eq_false', ncast, Int.not_lt, Int.not_le, ne_eq, not_true_eq_false, not_false_eq_true, false_or, true_and, Go.IntKind.wrap_i64] at *) <;> omega))
    rw [← this, hbv, show 0 + (i / 8).toNat = i.toNat / 8 by omega]

def NumQ (xs : List Int) (at_ n : Int) (x i : Int) (j : Nat) : Prop := i = (j : Int) - 1 ∧ (j : Int) ≤ n ∧ x = cut (V xs) (at_.toNat + j) (n.toNat - j)

theorem s_number (xs : List Int) (m : Nat) (hb : Byt xs) (hm : m = xs.length) (at_ n : Int) (h0 : 0 ≤ at_) (h1 : at_ ≤ 10000000000000) (h2 : 0 ≤ n) (h3 : n ≤ 32) :
    Spec prog 65 [.sl 0 0 m false, .int .i64 at_, .int .i64 n] [.vw (R.ints .u8 xs)]
      (fun r H => r = .int .u32 (cut (V xs) at_.toNat n.toNat) ∧ H = [.vw (R.ints .u8 xs)]) := by
  refine Spec_of_kX (D := fun i => (0, [])) (ks := [0, 1, 2, 6, 7, 8]) tok mixed (fn := f65) rfl rfl rfl (by kernel_rfl) (N := 24) rfl (rs := [.tmp 6]) rfl (Nat.le_of_ble_eq_true rfl) fun A C Kp E ag L q hA hC hK hE hag hL hq => ?_
  rw [← hA]
  cbv
  rw [hL]
  have hN : NumQ xs at_ n 0 (A.bin .sub .i64 n 1) n.toNat := by
    refine ⟨?_, by omega, ?_⟩
    · rw [subA' hA, wrap64 (by omega)]; omega
    · rw [Nat.sub_self]; unfold cut; simp [Int.emod_one]
  refine loop_keep (fun kk s => ∃ (x i : Int), NumQ xs at_ n x i kk ∧ s = ⟨[(0, .sl 0 0 m false), (1, .int .i64 at_), (2, .int .i64 n), (6, .int .u32 0), (7, .int .u32 x), (8, .int .i64 i)], [.vw (A.ints .u8 xs)]⟩) [0, 1, 2, 6, 7, 8] _ ⟨0, A.bin .sub .i64 n 1, hN, rfl⟩ ?_
  clear hN
  rintro j _ ⟨x, i, hN, rfl⟩
  have hN1 := hN.1
  have hN2 := hN.2.1
  cbv
  refine ifB_intro (fun h => ?_) (fun h => ?_)
  · have hi := h
    (try simp only [natA hA, lssA hA, leqA hA, gtrA hA, geqA hA, eqlA hA, neqA hA, notA hA, beqA hA, decide_eq_true_eq, decide_eq_false_iff_not, beq_iff_eq, beq_eq_false_iff_ne, bne_iff_ne, bne_eq_false_iff_eq, Bool.not_eq_true', Bool.not_eq_false', ncast, Int.not_lt, Int.not_le, ne_eq, not_true_eq_false, not_false_eq_true, false_or, true_and] at hi)
    (try rw [h]); clear h
    cbv
    have ei : A.bin .add .i64 at_ i = at_ + i := by rw [addA hA]; exact wrap64 (by (first | omega | (try simp only [natA hA, lssA hA, leqA hA, gtrA hA, geqA hA, eqlA hA, neqA hA, notA hA, beqA hA, decide_eq_true_eq, decide_eq_false_iff_not, beq_iff_eq, beq_eq_false_iff_ne, bne_iff_ne, bne_eq_false_iff_eq, Bool.not_eq_true', Bool.not_eq_false', ncast, Int.not_lt, Int.not_le, ne_eq, not_true_eq_false, not_false_eq_true, false_or, true_and, addA hA, subA' hA, inrA hA, ge0A hA, ne0A hA, leIA hA, ixA hA, cntA hA, addNA hA, tnA hA, posA hA, Go.IntKind.wrap_i64] at *) <;> omega | (try simp only [decide_eq_true_eq, decide_eq_false_iff_not, beq_iff_eq, beq_eq_false_iff_ne, bne_iff_ne, bne_eq_false_iff_eq, Bool.not_eq_true', Bool.not_eq_false', ncast, Int.not_lt, Int.not_le, ne_eq, not_true_eq_false, not_false_eq_true, false_or, true_and, Go.IntKind.wrap_i64] at *) <;> omega))
    have hS := s_rat xs m hb hm (at_ + i) (by (first | omega | (try simp only [natA hA, lssA hA, leqA hA, gtrA hA, geqA hA, eqlA hA, neqA hA, notA hA, beqA hA, decide_eq_true_eq, decide_eq_false_iff_not, beq_iff_eq, beq_eq_false_iff_ne, bne_iff_ne, bne_eq_false_iff_eq, Bool.not_eq_true', Bool.not_eq_false', ncast, Int.not_lt, Int.not_le, ne_eq, not_true_eq_false, not_false_eq_true, false_or, true_and, addA hA, subA' hA, inrA hA, ge0A hA, ne0A hA, leIA hA, ixA hA, cntA hA, addNA hA, tnA hA, posA hA, Go.IntKind.wrap_i64] at *) <;> omega | (try simp only [decide_eq_true_eq, decide_eq_false_iff_not, beq_iff_eq, beq_eq_false_iff_ne, bne_iff_ne, bne_eq_false_iff_eq, Bool.not_eq_true', Bool.not_eq_false', ncast, Int.not_lt, Int.not_le, ne_eq, not_true_eq_false, not_false_eq_true, false_or, true_and, Go.IntKind.wrap_i64] at *) <;> omega)) (by (first | omega | (try simp only [natA hA, lssA hA, leqA hA, gtrA hA, geqA hA, eqlA hA, neqA hA, notA hA, beqA hA, decide_eq_true_eq, decide_eq_false_iff_not, beq_iff_eq, beq_eq_false_iff_ne, bne_iff_ne, bne_eq_false_iff_eq, Bool.not_eq_true', Bool.not_eq_false', ncast, Int.not_lt, Int.not_le, ne_eq, not_true_eq_false, not_false_eq_true, false_or, true_and, addA hA, subA' hA, inrA hA, ge0A hA, ne0A hA, leIA hA, ixA hA, cntA hA, addNA hA, tnA hA, posA hA, Go.IntKind.wrap_i64] at *) <;> omega | (try simp only [decide_eq_true_eq, decide_eq_false_iff_not, beq_iff_eq, beq_eq_false_iff_ne, bne_iff_ne, bne_eq_false_iff_eq, Bool.not_eq_true', Bool.not_eq_false', ncast, Int.not_lt, Int.not_le, ne_eq, not_true_eq_false, not_false_eq_true, false_or, true_and, Go.IntKind.wrap_i64] at *) <;> omega))
    rw [← hA, ← ei] at hS
    refine cal_vw hC hS [(0, 0, false)] rfl ⟨hLtsA hA .., zOksA hA .., by rw [renA hA, cellsAt_eq rfl (by simp [Ck.cells])]; simp [Ck.cells], trivial⟩ ⟨⟨(show 0 < 1 by omega), rfl, rfl, rfl⟩, ⟨trivial, trivial, rfl⟩, trivial⟩ rfl ?_
    rw [ei]
    obtain ⟨y, hy⟩ : ∃ y, y = cut (V xs) (at_ + i).toNat 1 := ⟨_, rfl⟩
    rw [← hy]
    cbv
    subst hA hag
    obtain ⟨k, rfl⟩ : ∃ k, j = k + 1 := ⟨j - 1, by simp only [ncast] at *; omega⟩
    refine again_keep [0, 1, 2, 6, 7, 8] k (by omega) ⟨_, IntKind.i64.wrap (i - 1), ⟨?_, ?_, ?_⟩, rfl⟩
    · have hN1 : i = ((k + 1 : Nat) : Int) - 1 := hN.1
      rw [wrap64 (by omega)]; omega
    · have hN2 : ((k + 1 : Nat) : Int) ≤ n := hN.2.1
      omega
    · have hN1 : i = ((k + 1 : Nat) : Int) - 1 := hN.1
      have hN2 : ((k + 1 : Nat) : Int) ≤ n := hN.2.1
      have hx := hN.2.2
      have e : cut (V xs) (at_.toNat + k) (n.toNat - k) = y + 2 * x := by
        rw [show n.toNat - k = (n.toNat - (k + 1)) + 1 by omega, cut_down, hx, hy, show (at_ + i).toNat = at_.toNat + k by omega, Nat.add_assoc]
      rw [e]
      show IntKind.u32.wrap (IntKind.u32.wrap (x * 2) + y) = _
      have b1 := cut_nonneg (V_bnd hb).1 (at_.toNat + k) (n.toNat - k)
      have b2 := cut_lt (V xs) (at_.toNat + k) (n.toNat - k)
      have b3 := cut_nonneg (V_bnd hb).1 (at_.toNat + (k + 1)) (n.toNat - (k + 1))
      have b4 := cut_nonneg (V_bnd hb).1 (at_ + i).toNat 1
      have hq : (2 : Int) ^ (n.toNat - k) ≤ 2 ^ 32 := by exact_mod_cast Nat.pow_le_pow_right (by decide) (by omega)
      have hq32 : (2 : Int) ^ 32 = 4294967296 := by decide
      rw [e] at b1 b2
      rw [← hx] at b3
      rw [← hy] at b4
      rw [wrapu32 (n := x * 2) (by omega), wrapu32 (by omega)]
      omega
  · have hi := h
    (try simp only [natA hA, lssA hA, leqA hA, gtrA hA, geqA hA, eqlA hA, neqA hA, notA hA, beqA hA, decide_eq_true_eq, decide_eq_false_iff_not, beq_iff_eq, beq_eq_false_iff_ne, bne_iff_ne, bne_eq_false_iff_eq, Bool.not_eq_true', Bool.not_eq_false', ncast, Int.not_lt, Int.not_le, ne_eq, not_true_eq_false, not_false_eq_true, false_or, true_and] at hi)
    (try rw [h]); clear h
    cbv
    subst hA hq
    refine ⟨?_, rfl⟩
    have hj : j = 0 := by
      have h5 : i = (j : Int) - 1 := hN.1
      omega
    subst hj
    rw [hN.2.2, Nat.add_zero, Nat.sub_zero]
end Go.Sx

/- The writer: the contract of Put. -/
set_option maxRecDepth 100000
set_option maxHeartbeats 4000000
set_option linter.unusedVariables false
set_option linter.unusedSimpArgs false
namespace Go.Sx
open Go.Proofs.Try

/-- A writer's state: the bits W, so many of them; bytes, and what is in hand. -/
def WF (W : Int) (P : Nat) (ys : List Int) (k n : Nat) (hold nI : Int) : Prop :=
  nI = n ∧ k = ys.length ∧ P = 8 * ys.length + n ∧ 0 ≤ hold ∧ hold < 2 ^ n ∧ Byt ys ∧ W = V ys + 2 ^ (8 * ys.length) * hold

/-- A byte goes out. -/
theorem WF_step {W : Int} {P : Nat} {ys : List Int} {k n : Nat} {hold nI : Int} (h : WF W P ys k n hold nI) (hn : 8 ≤ n) : WF W P (ys ++ [hold % 256]) (k + 1) (n - 8) (hold / 256) (nI - 8) := by
  obtain ⟨h1, h2, h3, h4, h5, h6, h7⟩ := h
  have hm0 := Int.emod_nonneg hold (by decide : (256 : Int) ≠ 0)
  have hm1 := Int.emod_lt_of_pos hold (by decide : (0 : Int) < 256)
  refine ⟨by omega, by simp [h2], by simp; omega, Int.ediv_nonneg h4 (by decide), ?_, ?_, ?_⟩
  · obtain ⟨q, rfl⟩ : ∃ q, n = q + 8 := ⟨n - 8, by omega⟩
    rw [Nat.add_sub_cancel]
    rw [Int.pow_add] at h5
    exact Int.ediv_lt_of_lt_mul (by decide) (by simpa using h5)
  · intro x hx
    rcases List.mem_append.1 hx with hx | hx
    · exact h6 x hx
    · simp at hx; omega
  · rw [h7, V_app, List.length_append]
    simp only [V, List.length_cons, List.length_nil]
    rw [show 8 * (ys.length + (0 + 1)) = 8 * ys.length + 8 by omega, Int.pow_add]
    generalize (2 : Int) ^ (8 * ys.length) = p
    have e : hold = 256 * (hold / 256) + hold % 256 := by omega
    have e2 : p * 2 ^ 8 * (hold / 256) = p * (256 * (hold / 256)) := by rw [Int.mul_assoc]; rfl
    rw [e2, Int.add_assoc, ← Int.mul_add]
    congr 2
    omega

/-- A number comes in. -/
theorem WF_put {W : Int} {P : Nat} {ys : List Int} {k n : Nat} {hold nI : Int} (h : WF W P ys k n hold nI) (v : Int) (j : Nat) (hv0 : 0 ≤ v) (hv1 : v < 2 ^ j) : WF (W + 2 ^ P * v) (P + j) ys k (n + j) (hold + v * 2 ^ n) (nI + j) := by
  obtain ⟨h1, h2, h3, h4, h5, h6, h7⟩ := h
  have hp := pow_pos2 n
  have hm := Int.mul_nonneg hv0 (Int.le_of_lt hp)
  refine ⟨by omega, h2, by omega, by omega, ?_, h6, ?_⟩
  · rw [Int.pow_add]
    have : v * 2 ^ n ≤ (2 ^ j - 1) * 2 ^ n := Int.mul_le_mul_of_nonneg_right (by omega) (Int.le_of_lt hp)
    rw [Int.sub_mul, Int.one_mul] at this
    rw [Int.mul_comm (2 ^ n)]
    omega
  · rw [h7, h3, Int.pow_add, Int.mul_add, Int.mul_comm v, ← Int.mul_assoc, Int.add_assoc]

def PutN (k : Int) : Nat := (if 32 < (if k < 0 then 0 else k) then 32 else (if k < 0 then 0 else k)).toNat

theorem s_put (W : Int) (P k n : Nat) (ys : List Int) (hold nI x kI : Int) (hF : WF W P ys k n hold nI) (hn : n < 8) (hx : 0 ≤ x ∧ x < 4294967296) (hl : ys.length ≤ 10000000000) :
    Spec prog 66 [.ptr 0 0, .int .u32 x, .int .i64 kI] [.box 94 [.lst 1 k, .int .u64 hold, .int .i64 nI], .lst 5 1 (R.ints .u8 ys)]
      (fun r H => r = .tup [] ∧ ∃ (ys : List Int) (k n : Nat) (hold nI : Int), WF (W + 2 ^ P * (x % 2 ^ PutN kI)) (P + PutN kI) ys k n hold nI ∧ n < 8 ∧ H = [.box 94 [.lst 2 k, .int .u64 hold, .int .i64 nI], .gone, .lst 5 1 (R.ints .u8 ys)]) := by
  refine Spec_of_xF (D := fun i => if i = 2 then (15, []) else if i = 6 then (12, [2]) else (0, [])) (ks := [0, 1, 2]) tok mixed (fn := f66) rfl rfl rfl (by kernel_rfl) (N := 70) rfl (rs := []) rfl (by show 3 ≤ 70; omega) fun A C ag L fi hA hC hag hL hfi => ?_
  rw [← hA]
  obtain ⟨K, hK⟩ : ∃ K : Int, K = A.mn (A.mx kI 0) 32 := ⟨_, rfl⟩
  have hK' : K = (PutN kI : Int) ∧ PutN kI ≤ 32 := by
    subst hA
    have : K = (if 32 < (if kI < 0 then 0 else kI) then 32 else (if kI < 0 then 0 else kI)) := hK
    unfold PutN
    rw [this]
    constructor <;> split <;> split <;> omega
  obtain ⟨J, hJ⟩ : ∃ J, J = PutN kI := ⟨_, rfl⟩
  rw [← hJ] at hK' hfi
  have h1 : WF (W + 2 ^ P * (x % 2 ^ J)) (P + J) ys k (n + J) (A.bin .or .u64 hold (A.bin .shl .u64 (A.bin .and .u64 (A.wrap .u64 x) (A.bin .sub .u64 (A.bin .shl .u64 1 K) 1)) nI)) (A.bin .add .i64 nI K) := by
    have hj := WF_put hF (x % 2 ^ J) J (Int.emod_nonneg _ (Int.ne_of_gt (pow_pos2 J))) (Int.emod_lt_of_pos _ (pow_pos2 J))
    obtain ⟨g1, g2, g3, g4, g5, g6, g7⟩ := hF
    obtain ⟨e1, e2⟩ := hK'
    subst hA
    have a1 : R.bin .add .i64 nI K = nI + J := (wrap64 (n := nI + K) (by omega)).trans (by omega)
    have a2 : R.bin .and .u64 (R.wrap .u64 x) (R.bin .sub .u64 (R.bin .shl .u64 1 K) 1) = x % 2 ^ J := by
      show band .u64 (IntKind.u64.wrap x) (IntKind.u64.wrap (shlI .u64 1 K - 1)) = _
      rw [wrapu64 (n := x) (by omega), e1, mask64 (by omega) (by omega) (by omega)]
    have hv0 : 0 ≤ x % 2 ^ J := Int.emod_nonneg _ (Int.ne_of_gt (pow_pos2 J))
    have hv1 : x % 2 ^ J < 2 ^ J := Int.emod_lt_of_pos _ (pow_pos2 J)
    have q1 : (2 : Int) ^ J ≤ 2 ^ 32 := by exact_mod_cast Nat.pow_le_pow_right (by decide) e2
    have q2 : (2 : Int) ^ n ≤ 2 ^ 7 := by exact_mod_cast Nat.pow_le_pow_right (by decide) (by omega)
    have q3 : (2 : Int) ^ 32 = 4294967296 := by decide
    have q4 : (2 : Int) ^ 7 = 128 := by decide
    have qp := pow_pos2 n
    have q5 : x % 2 ^ J * 2 ^ n ≤ 4294967295 * 128 := Int.mul_le_mul (by omega) (by omega) (by omega) (by omega)
    have q6 := Int.mul_nonneg hv0 (Int.le_of_lt qp)
    have a3 : R.bin .or .u64 hold (R.bin .shl .u64 (x % 2 ^ J) nI) = hold + x % 2 ^ J * 2 ^ n := by
      show bor .u64 hold (shlI .u64 (x % 2 ^ J) nI) = _
      rw [g1, shl64 (by omega) hv0 (by omega), or64 g4 g5 hv0 (by omega)]
    rw [a1, a2, a3]
    exact hj
  have hge : A.ge0 (A.mn (A.mx kI 0) 32) ∧ A.ge0 nI := by
    rw [← hK]
    have h0 : 0 ≤ nI := by have := hF.1; omega
    have h2 : 0 ≤ K := by have := hK'.1; omega
    subst hA
    exact ⟨h2, h0⟩
  cbv
  refine ⟨hge.1, hge.2, ?_⟩
  rw [hL]
  refine ⟨fun kk s => ∃ (ys : List Int) (k n : Nat) (hold nI : Int), WF (W + 2 ^ P * (x % 2 ^ J)) (P + J) ys k n hold nI ∧ (n ≤ 39 ∧ ys.length ≤ 10000000000 + 5 - n / 8) ∧ kk = n ∧ s = ⟨[(0, .ptr 0 0)], [.box 94 [.lst 2 k, .int .u64 hold, .int .i64 nI], .gone, .lst 5 1 (A.ints .u8 ys)]⟩,
    ⟨n + J, ⟨[(0, .ptr 0 0)], [.box 94 [.lst 2 k, .int .u64 (A.bin .or .u64 hold (A.bin .shl .u64 (A.bin .and .u64 (A.wrap .u64 x) (A.bin .sub .u64 (A.bin .shl .u64 1 (A.mn (A.mx kI 0) 32)) 1)) nI)), .int .i64 (A.bin .add .i64 nI (A.mn (A.mx kI 0) 32))], .gone, .lst 5 1 (A.ints .u8 ys)]⟩, ?_, ys, k, n + J, _, _, ?_, ?_, rfl, rfl⟩, ?_⟩
  · subst hA
    exact Sub_of [0, 1, 1] (by simp [sigOk, ndG]) (by simp) ⟨fun _ => rfl, (by simp), ⟨⟨(show 2 < 3 by omega), trivial, trivial, trivial⟩, rfl⟩, fun _ => rfl, (by simp), trivial, fun h => absurd h (by simp), (by simp), subC_ints rfl, trivial⟩
      ⟨.inr ⟨(show 0 < 3 by omega), rfl⟩, trivial⟩
  · rw [← hK]; exact h1
  · have := hK'.2
    omega
  clear h1 hF hge
  rintro kk _ ⟨ys, k, n, hold, nI, hW, hb, hkk, rfl⟩
  cbv
  refine ifB_intro (fun h => ?_) (fun h => ?_)
  · cbv
    have ha := apdA1 hA .u8 ys (A.wrap .u8 hold)
    refine ⟨?_, ?_, ?_, ?_⟩
    · have := hW.2.1
      subst hA
      show (R.ints .u8 ys).length = k * 1
      rw [R_ints_length]; omega
    · have := hW.2.1
      subst hA
      show (k + 1) * 1 ≤ room
      unfold room; omega
    · subst hA; exact (by decide : (0 : Int) ≤ 8)
    subst hA hag
    have h : 8 ≤ nI := of_decide_eq_true h
    have h8 : 8 ≤ n := by have := hW.1; omega
    have hs := WF_step hW h8
    have hn64 : nI = n := hW.1
    have e1 : R.bin .sub .i64 nI 8 = nI - 8 := wrap64 (n := nI - 8) (by omega)
    have e2 : R.bin .shr .u64 hold 8 = hold / 256 := shr64 (a := hold) (n := 8) (by omega)
    have e3 : R.wrap .u8 hold = hold % 256 := Go.IntKind.wrap_u8 hold
    rw [← e1, ← e2, ← e3] at hs
    refine ⟨n - 8, ⟨[(0, .ptr 0 0)], [.box 94 [.lst 2 (k + 1), .int .u64 (R.bin .shr .u64 hold 8), .int .i64 (R.bin .sub .i64 nI 8)], .gone, .lst 5 1 (R.ints .u8 (ys ++ [R.wrap .u8 hold]))]⟩, by omega, ?_, ys ++ [R.wrap .u8 hold], k + 1, n - 8, _, _, hs, by simp; omega, rfl, rfl⟩
    exact Sub_of [0, 1, 4] (by simp [sigOk, ndG]) (by simp) ⟨fun _ => rfl, (by simp), ⟨⟨(show 2 < 3 by omega), trivial, trivial, trivial⟩, rfl⟩, fun _ => rfl, (by simp), trivial, fun h => absurd h (by simp), (by simp), subC_ints (congrArg (fun l => some (Ck.lst 5 1 l)) ha), trivial⟩
      ⟨.inr ⟨(show 0 < 3 by omega), rfl⟩, trivial⟩
  · cbv
    have h8 : n < 8 := by
      have h : ¬ 8 ≤ nI := by subst hA; exact of_decide_eq_false h
      have := hW.1
      omega
    subst hA hfi
    refine Fin_of ⟨[], [.box 94 [.lst 2 k, .int .u64 hold, .int .i64 nI], .gone, .lst 5 1 (R.ints .u8 ys)]⟩
      (Sub_of [0, 1, 2] (by simp [sigOk, ndG]) (by simp) ⟨fun _ => rfl, (by simp), ⟨⟨(show 2 < 3 by omega), trivial, trivial, trivial⟩, rfl⟩, fun _ => rfl, (by simp), trivial, fun h => absurd h (by simp), (by simp), subC_ints rfl, trivial⟩ trivial) ?_
    exact ⟨rfl, ys, k, n, hold, nI, hW, h8, rfl⟩
end Go.Sx

/- hist: contracts. -/
set_option maxRecDepth 100000
set_option maxHeartbeats 4000000
set_option linter.unusedVariables false
set_option linter.unusedSimpArgs false
namespace Go.Sx
open Go.Proofs.Try

theorem s_ok (wd mo n : Int) (k : Nat) (nn : Bool) : Spec prog 34 [.ptr 0 0] [.vw [.int .i64 wd, .int .i64 mo, .bool nn, .lst 1 k], .vw []]
    (fun r H => r = .bool (decide (0 < wd)) ∧ H = [.vw [.int .i64 wd, .int .i64 mo, .bool nn, .lst 1 k], .vw []]) := by
  refine Spec_of_xX (D := fun _ => (0, [])) (ks := [0, 2]) tok mixed (fn := f34) rfl rfl rfl (by kernel_rfl) (N := 12) rfl (rs := [.tmp 2]) rfl (by show 1 ≤ 12; omega) fun A C ag L q hA hC hag hL hq => ?_
  cbv
  subst hA hq
  exact ⟨rfl, rfl⟩

/-- What Lit answers, what is told behind it. -/
def LitQ (mo c : Int) (xs : List Int) (e : Int) (ys : List Int) : Prop := ((xs.length : Int) = mo ∧ e = 9 ∧ ys = xs) ∨ ((xs.length : Int) ≠ mo ∧ e = 0 ∧ ys = xs ++ [c])

theorem s_lit (wd mo c : Int) (n : Nat) (nn : Bool) (xs : List Int) (hn : n = xs.length) (hl : xs.length ≤ 100000000000) (hw : 0 < wd) : Spec prog 53 [.ptr 0 0, .int .u8 c] [.box 74 [.int .i64 wd, .int .i64 mo, .bool nn, .lst 1 n], .lst 5 1 (R.ints .u8 xs)]
    (fun r H => ∃ (e : Int) (k : Nat) (ys : List Int), LitQ mo c xs e ys ∧ k = ys.length ∧ r = .int .i64 e ∧ H = [.box 74 [.int .i64 wd, .int .i64 mo, .bool nn, .lst 2 k], .gone, .lst 5 1 (R.ints .u8 ys)]) := by
  refine Spec_of_xF (D := fun i => if i = 3 then (9, []) else (0, [])) (ks := [0, 1, 4]) tok mixed (fn := f53) rfl rfl rfl (by kernel_rfl) (N := 30) rfl (rs := [.tmp 4]) rfl (by show 2 ≤ 30; omega) fun A C ag L fi hA hC hag hL hfi => ?_
  rw [← hA]
  cbv
  refine cal_vw hC (s_ok wd mo 0 n nn) [(0, 0, false), (1, 0, false)] rfl (matchV2 ⟨trivial, trivial, trivial, (show 1 < 2 by omega), trivial⟩ ⟨trivial, trivial, trivial, rfl, trivial⟩ rfl rfl (by simp)) ⟨⟨(show 0 < 2 by omega), trivial, rfl⟩, trivial⟩ rfl ?_
  rw [decide_eq_true hw]
  cbv
  refine ifB_intro (fun h => ?_) (fun h => ?_)
  · subst hA; exact absurd h (by decide)
  cbv
  refine ifB_intro (fun h' => ?_) (fun h' => ?_)
  · cbv
    subst hA hfi
    have h' : (n : Int) = mo := by
      have h' : ((n : Int) == mo) = true := h'
      simpa using h'
    refine Fin_of ⟨[(4, .int .i64 9)], [.box 74 [.int .i64 wd, .int .i64 mo, .bool nn, .lst 2 n], .gone, .lst 5 1 (R.ints .u8 xs)]⟩
      (Sub_of [0, 1, 1] (by simp [sigOk, ndG]) (by simp) ⟨fun _ => rfl, (by simp), ⟨⟨trivial, trivial, trivial, (show 2 < 3 by omega), trivial⟩, rfl⟩, fun _ => rfl, (by simp), trivial, fun h => absurd h (by simp), (by simp), subC_ints rfl, trivial⟩ ⟨.inr ⟨trivial, rfl⟩, trivial⟩) ?_
    exact ⟨9, n, xs, .inl ⟨by omega, rfl, rfl⟩, hn, rfl, rfl⟩
  · cbv
    have ha := apdA1 hA .u8 xs c
    refine ⟨?_, ?_, ?_⟩
    · subst hA
      show (R.ints .u8 xs).length = n * 1
      rw [R_ints_length]; omega
    · subst hA
      show (n + 1) * 1 ≤ room
      unfold room; omega
    subst hA hfi
    have h' : (n : Int) ≠ mo := by
      have h' : ((n : Int) == mo) = false := h'
      simpa using h'
    refine Fin_of ⟨[(4, .int .i64 0)], [.box 74 [.int .i64 wd, .int .i64 mo, .bool nn, .lst 2 (n + 1)], .gone, .lst 5 1 (R.ints .u8 (xs ++ [c]))]⟩
      (Sub_of [0, 1, 3] (by simp [sigOk, ndG]) (by simp) ⟨fun _ => rfl, (by simp), ⟨⟨trivial, trivial, trivial, (show 2 < 3 by omega), trivial⟩, rfl⟩, fun _ => rfl, (by simp), trivial, fun h => absurd h (by simp), (by simp), subC_ints (congrArg (fun l => some (Ck.lst 5 1 l)) ha), trivial⟩ ⟨.inr ⟨trivial, rfl⟩, trivial⟩) ?_
    exact ⟨0, n + 1, xs ++ [c], .inr ⟨by omega, rfl, rfl⟩, by simp [hn], rfl, rfl⟩
end Go.Sx

/- hist: the other contracts, calls of them, and that anything is told at all. -/
set_option maxRecDepth 100000
set_option maxHeartbeats 4000000
set_option linter.unusedVariables false
set_option linter.unusedSimpArgs false
namespace Go.Sx
open Go.Proofs.Try

theorem s_new (wd mo : Int) (nn : Bool) (hw : 1 ≤ wd ∧ wd ≤ 65536) (hm : 0 ≤ mo) : Spec prog 19 [.int .i64 wd, .int .i64 mo, .bool nn] []
    (fun r H => r = .tup [.ptr 0 0, .int .i64 0] ∧ H = [.box 74 [.int .i64 wd, .int .i64 mo, .bool nn, .lst 1 0], .lst 5 1 []]) := by
  refine Spec_of_xF (D := fun _ => (0, [])) (ks := [0, 1, 2, 6, 7]) tok mixed (fn := f19) rfl rfl rfl (by kernel_rfl) (N := 23) rfl (rs := [.tmp 6, .tmp 7]) rfl (by show 3 ≤ 23; omega) fun A C ag L fi hA hC hag hL hfi => ?_
  cbv
  refine ifB_intro (fun h => ?_) (fun h => ?_)
  · exfalso; subst hA; have h : wd < 1 := of_decide_eq_true h; omega
  rw [h]
  clear h
  cbv
  refine ifB_intro (fun h => ?_) (fun h => ?_)
  · exfalso; subst hA; have h : 65536 < wd := of_decide_eq_true h; omega
  rw [h]
  clear h
  cbv
  refine ifB_intro (fun h => ?_) (fun h => ?_)
  · exfalso; subst hA; have h : mo < 0 := of_decide_eq_true h; omega
  clear h
  cbv
  subst hfi
  refine Fin_of _ (Sub_nil (h := 0) (j := 3) (T := 74) (e := 5) (sz := 1) rfl rfl) ?_
  exact ⟨rfl, rfl⟩

theorem s_newbad (wd mo : Int) (nn : Bool) (hw : wd < 1 ∨ 65536 < wd ∨ mo < 0) : Spec prog 19 [.int .i64 wd, .int .i64 mo, .bool nn] [] (fun r H => r = .tup [.nilP, .int .i64 2] ∧ H = []) := by
  refine Spec_of_xX (D := fun _ => (0, [])) (ks := [0, 1, 2, 6, 7]) tok mixed (fn := f19) rfl rfl rfl (by kernel_rfl) (N := 23) rfl (rs := [.tmp 6, .tmp 7]) rfl (by show 3 ≤ 23; omega) fun A C ag L q hA hC hag hL hq => ?_
  cbv
  refine ifB_intro (fun h => ?_) (fun h => ?_)
  · rw [h]; cbv; subst hq; exact ⟨rfl, rfl⟩
  have h1 : ¬ wd < 1 := by subst hA; exact of_decide_eq_false h
  rw [h]
  clear h
  cbv
  refine ifB_intro (fun h => ?_) (fun h => ?_)
  · rw [h]; cbv; subst hq; exact ⟨rfl, rfl⟩
  have h2 : ¬ 65536 < wd := by subst hA; exact of_decide_eq_false h
  rw [h]
  clear h
  cbv
  refine ifB_intro (fun h => ?_) (fun h => ?_)
  · cbv; subst hq; exact ⟨rfl, rfl⟩
  exfalso; subst hA; have h : ¬ mo < 0 := of_decide_eq_false h; omega


theorem s_full (wd mo : Int) (k : Nat) (nn : Bool) (hw : 0 < wd) : Spec prog 22 [.ptr 0 0] [.vw [.int .i64 wd, .int .i64 mo, .bool nn, .lst 1 k], .vw []]
    (fun r H => r = .bool (R.cmp .eql (R.nat k) mo) ∧ H = [.vw [.int .i64 wd, .int .i64 mo, .bool nn, .lst 1 k], .vw []]) := by
  refine Spec_of_xX (D := fun i => if i = 1 then (12, []) else (0, [])) (ks := [0, 2]) tok mixed (fn := f22) rfl rfl rfl (by kernel_rfl) (N := 17) rfl (rs := [.tmp 2]) rfl (by show 1 ≤ 17; omega) fun A C ag L q hA hC hag hL hq => ?_
  cbv
  refine cal_vw hC (s_ok wd mo 0 k nn) [(0, 0, false), (1, 0, false)] rfl (matchVV2 ⟨trivial, trivial, trivial, (show 1 < 2 by omega), trivial⟩ ⟨trivial, trivial, trivial, rfl, trivial⟩ rfl rfl (by simp)) ⟨⟨(show 0 < 2 by omega), trivial, rfl⟩, trivial⟩ rfl ?_
  rw [decide_eq_true hw]
  cbv
  subst hA hq
  exact ⟨rfl, rfl⟩

theorem s_bytes (wd mo : Int) (k : Nat) (nn : Bool) (xs : List Int) (hk : k = xs.length) (hl : xs.length ≤ 1000000000000) (hw : 0 < wd) : Spec prog 25 [.ptr 0 0] [.vw [.int .i64 wd, .int .i64 mo, .bool nn, .lst 1 k], .vw (R.ints .u8 xs)]
    (fun r H => r = .lst 3 k ∧ H = [.vw [.int .i64 wd, .int .i64 mo, .bool nn, .lst 1 k], .vw (R.ints .u8 xs), .gone, .lst 5 1 (R.ints .u8 xs)]) := by
  refine Spec_of_xX (D := fun i => (0, [])) (ks := [0, 2]) tok mixed (fn := f25) rfl rfl rfl (by kernel_rfl) (N := 11) rfl (rs := [.tmp 2]) rfl (by show 1 ≤ 11; omega) fun A C ag L q hA hC hag hL hq => ?_
  have hS := s_clone xs k hk hl
  rw [← hA] at hS ⊢
  cbv
  refine cal_vw hC (s_ok wd mo 0 k nn) [(0, 0, false), (1, 0, false)] rfl (matchVV2 ⟨trivial, trivial, trivial, (show 1 < 2 by omega), trivial⟩ ⟨trivial, trivial, trivial, rfl, trivial⟩ rfl rfl (by simp)) ⟨⟨(show 0 < 2 by omega), trivial, rfl⟩, trivial⟩ rfl ?_
  rw [decide_eq_true hw]
  cbv
  refine ifB_intro (fun h => ?_) (fun h => ?_)
  · subst hA; exact absurd h (by decide)
  cbv
  refine cal_of hC hS [(1, 0, false)] ⟨by simp, trivial⟩ ⟨hLtsA hA .., zOksA hA .., ?_, trivial⟩ ⟨⟨(show 0 < 1 by omega), rfl, rfl, rfl, rfl⟩, trivial⟩ ?_
  · rw [renA hA, cellsAt_eq rfl (by simp [Ck.cells])]
    simp [Ck.cells]
  rintro _ _ ⟨rfl, rfl⟩
  refine ⟨_, _, [.vw [.int .i64 wd, .int .i64 mo, .bool nn, .lst 1 k], .vw (A.ints .u8 xs), .gone, .lst 5 1 (A.ints .u8 xs)], rfl, rfl, ?_, ?_⟩
  · simp only [backH, List.map_cons, List.map_nil, renCk, renA hA]
    rfl
  cbv
  subst hA hq
  exact ⟨rfl, rfl⟩
end Go.Sx

/- hist: calls of its functions; that anything is told at all; whether rows are the same. -/
set_option maxRecDepth 100000
set_option maxHeartbeats 4000000
set_option linter.unusedVariables false
set_option linter.unusedSimpArgs false
namespace Go.Sx
open Go.Proofs.Try

theorem backH3 {A : Ar} (hA : A = R) {T e : Nat} {k : IntKind} {xs : List Int} {g : Nat → Nat × Nat} {cs cs' : List SV} {sH : List Ck} {hb hr : Nat} (h3 : cs.map (renC g) = cs') :
    backH g [(hb, 0, true), (hr, 0, true)] [.box T cs, .gone, .lst e 1 (A.ints k xs)] sH = apd (set1 (set1 sH hb (.box T cs')) hr .gone) [.lst e 1 (A.ints k xs)] := by
  rw [apd_eq, set1_eq, set1_eq]
  simp only [backH, List.map_cons, List.map_nil, renCk, h3, renA hA, setAll, List.length_cons, List.length_nil, List.drop_succ_cons, List.drop_zero]

section
variable {A : Ar} {C : CallT} {xs : List Int} {wd mo : Int} {nn : Bool} {k hb hr : Nat} {s : St} {κ : List Nat → SV → List Ck → Prop}

theorem call_lit (hC : C = CallX prog) (hA : A = R) {c : Int} (hn : k = xs.length) (hl : xs.length ≤ 100000000000) (hw : 0 < wd) (hne : hb ≠ hr) (h4 : s.H[hb]? = some (.box 74 [.int .i64 wd, .int .i64 mo, .bool nn, .lst hr k])) (h5 : s.H[hr]? = some (.lst 5 1 (A.ints .u8 xs)))
    (hk : ∀ (e : Int) (k : Nat) (ys : List Int), LitQ mo c xs e ys → k = ys.length →
      κ [hb, hr] (.int .i64 e) (apd (set1 (set1 s.H hb (.box 74 [.int .i64 wd, .int .i64 mo, .bool nn, .lst (len1 s.H) k])) hr .gone) [.lst 5 1 (A.ints .u8 ys)])) : C 53 [.ptr hb 0, .int .u8 c] s κ := by
  have hS := s_lit wd mo c k nn xs hn hl hw
  rw [← hA] at hS
  refine cal_of hC hS [(hb, 0, true), (hr, 0, true)] ⟨by simp [hne], by simp, trivial⟩ (matchH2 hA ⟨trivial, trivial, trivial, (show 1 < 2 by omega), trivial⟩ ⟨trivial, trivial, trivial, rfl, trivial⟩ rfl h4 h5) ⟨⟨(show 0 < 2 by omega), trivial, rfl⟩, ⟨trivial, trivial, rfl⟩, trivial⟩ ?_
  rintro _ _ ⟨e, k', ys, hQ, hk', rfl, rfl⟩
  refine ⟨_, _, _, rfl, rfl, backH3 hA rfl, ?_⟩
  have := hk e k' ys hQ hk'
  rw [len1_eq] at this
  exact this

theorem call_full (hC : C = CallX prog) (hA : A = R) (hw : 0 < wd) (h4 : s.H[hb]? = some (.box 74 [.int .i64 wd, .int .i64 mo, .bool nn, .lst hr k])) (hr' : hr < s.H.length) (hk : κ [] (.bool (A.cmp .eql (A.nat k) mo)) s.H) : C 22 [.ptr hb 0] s κ := by
  subst hA
  exact cal_vw hC (s_full wd mo k nn hw) [(hb, 0, false), (hr, 0, false)] rfl (matchV2 ⟨trivial, trivial, trivial, (show 1 < 2 by omega), trivial⟩ ⟨trivial, trivial, trivial, rfl, trivial⟩ rfl h4 hr') ⟨⟨(show 0 < 2 by omega), trivial, rfl⟩, trivial⟩ rfl hk

theorem call_bytes (hC : C = CallX prog) (hA : A = R) (hn : k = xs.length) (hl : xs.length ≤ 1000000000000) (hw : 0 < wd) (h4 : s.H[hb]? = some (.box 74 [.int .i64 wd, .int .i64 mo, .bool nn, .lst hr k])) (h5 : s.H[hr]? = some (.lst 5 1 (A.ints .u8 xs)))
    (hk : κ [] (.lst (len1 s.H + 1) k) (apd s.H [.gone, .lst 5 1 (A.ints .u8 xs)])) : C 25 [.ptr hb 0] s κ := by
  have hS := s_bytes wd mo k nn xs hn hl hw
  rw [← hA] at hS
  refine cal_of hC hS [(hb, 0, false), (hr, 0, false)] ⟨by simp, by simp, trivial⟩ ⟨⟨trivial, trivial, trivial, (show 1 < 2 by omega), trivial⟩, ⟨trivial, trivial, trivial, rfl, trivial⟩, ?_, hLtsA hA .., zOksA hA .., ?_, trivial⟩ ⟨⟨(show 0 < 2 by omega), trivial, rfl⟩, trivial⟩ ?_
  · rw [cellsAt_eq h4 (by simp [Ck.cells])]; rfl
  · rw [renA hA, cellsAt_eq h5 (by simp [Ck.cells])]; simp [Ck.cells]
  rintro _ _ ⟨rfl, rfl⟩
  refine ⟨_, _, s.H ++ [.gone, .lst 5 1 (A.ints .u8 xs)], rfl, rfl, ?_, ?_⟩
  · simp only [backH, List.map_cons, List.map_nil, renCk, renA hA]
    rfl
  · rw [len1_eq, apd_eq] at hk
    exact hk

theorem call_new (hC : C = CallX prog) (hA : A = R) (hw : 1 ≤ wd ∧ wd ≤ 65536) (hm : 0 ≤ mo)
    (hk : κ [] (.tup [.ptr (len1 s.H) 0, .int .i64 0]) (apd s.H [.box 74 [.int .i64 wd, .int .i64 mo, .bool nn, .lst (len1 s.H + 1) 0], .lst 5 1 (A.ints .u8 [])])) : C 19 [.int .i64 wd, .int .i64 mo, .bool nn] s κ := by
  refine cal_of hC (s_new wd mo nn hw hm) [] trivial trivial ⟨⟨trivial, trivial, rfl⟩, ⟨trivial, trivial, rfl⟩, ⟨trivial, trivial, rfl⟩, trivial⟩ ?_
  rintro _ _ ⟨rfl, rfl⟩
  refine ⟨_, _, s.H ++ [.box 74 [.int .i64 wd, .int .i64 mo, .bool nn, .lst (s.H.length + 1) 0], .lst 5 1 (A.ints .u8 [])], rfl, rfl, ?_, ?_⟩
  · subst hA; rfl
  · rw [len1_eq, apd_eq] at hk
    exact hk
end

/-- The rows' first elements are the same. -/
def SQ (xs ys : List Int) (i : Nat) (j : Int) : Prop := j = i ∧ i ≤ xs.length ∧ xs.length = ys.length ∧ xs.take i = ys.take i

def YQ (xs ys : List Int) (i : Nat) (x y : Int) : Prop := x = xs.getD i 0 ∧ y = ys.getD i 0

/-- Whether rows are the same. -/
theorem s_same (xs ys : List Int) (a b : Nat) (ha : a = xs.length) (hb : b = ys.length) (hl : xs.length ≤ 1000000000000) : Spec prog 12 [.sl 0 0 a false, .sl 1 0 b false] [.vw (R.ints .u8 xs), .vw (R.ints .u8 ys)]
    (fun r H => r = .bool (decide (xs = ys)) ∧ H = [.vw (R.ints .u8 xs), .vw (R.ints .u8 ys)]) := by
  refine Spec_of_xX (D := fun i => if i = 6 then (8, []) else (0, [])) (ks := [0, 1, 4, 5]) tok mixed (fn := f12) rfl rfl rfl (by kernel_rfl) (N := 26) rfl (rs := [.tmp 4]) rfl (by show 2 ≤ 26; omega) fun A C ag L q hA hC hag hL hq => ?_
  rw [← hA]
  cbv
  refine ifB_intro (fun h => ?_) (fun h => ?_)
  · cbv
    subst hA hq
    have h : ((a : Int) != (b : Int)) = true := h
    refine ⟨?_, rfl⟩
    rw [decide_eq_false]
    intro e
    subst e
    rw [ha, hb] at h
    simp at h
  have hab : SQ xs ys 0 0 := by
    subst hA
    have h : ((a : Int) != (b : Int)) = false := h
    refine ⟨rfl, by omega, ?_, rfl⟩
    have : (a : Int) = b := by simpa using h
    omega
  clear h
  cbv
  rw [hL]
  refine loop_keep (fun k s => ∃ (i : Nat) (j : Int), SQ xs ys i j ∧ k = xs.length - i ∧ s = ⟨[(0, .sl 0 0 a false), (1, .sl 1 0 b false), (4, .bool false), (5, .int .i64 j)], [.vw (A.ints .u8 xs), .vw (A.ints .u8 ys)]⟩) [0, 1, 4, 5] _ ⟨0, 0, hab, rfl, rfl⟩ ?_
  rintro k _ ⟨i, j, hS, hk, rfl⟩
  cbv
  refine ifB_intro (fun h => ?_) (fun h => ?_)
  · cbv
    have hlt : 0 + j.toNat < xs.length ∧ 0 + j.toNat < ys.length ∧ A.inr j a ∧ A.inr j b ∧ j.toNat = i := by
      obtain ⟨h1, h2, h3, h4⟩ := hS
      subst hA
      have h : j < (a : Int) := of_decide_eq_true h
      exact ⟨by omega, by omega, ⟨by omega, h⟩, ⟨by omega, by omega⟩, by omega⟩
    obtain ⟨x, hx, hx2⟩ := nthA_ex hA .u8 hlt.1
    obtain ⟨y, hy, hy2⟩ := nthA_ex hA .u8 hlt.2.1
    have hxy : YQ xs ys i x y := by rw [hlt.2.2.2.2, Nat.zero_add] at hx2 hy2; exact ⟨hx2, hy2⟩
    refine ⟨hlt.2.2.1, bindO_some hx ?_⟩
    clear hx2 hy2
    cbv
    refine ⟨hlt.2.2.2.1, bindO_some hy ?_⟩
    cbv
    refine ifB_intro (fun h' => ?_) (fun h' => ?_)
    · cbv
      subst hA hq
      have h' : (x != y) = true := h'
      refine ⟨?_, rfl⟩
      rw [decide_eq_false]
      intro e
      rw [hxy.1, hxy.2, e] at h'
      simp at h'
    · cbv
      subst hA hag
      obtain ⟨h1, h2, h3, h4⟩ := hS
      have h : j < (a : Int) := of_decide_eq_true h
      have h' : (x != y) = false := h'
      have e : IntKind.i64.wrap (j + 1) = j + 1 := wrap64 (by omega)
      refine again_keep [0, 1, 4, 5] (xs.length - (i + 1)) (by omega) ⟨i + 1, IntKind.i64.wrap (j + 1), ⟨by omega, by omega, h3, ?_⟩, rfl, rfl⟩
      have hxe : x = y := by simpa using h'
      have l1 : i < xs.length := by omega
      have l2 : i < ys.length := by omega
      rw [List.take_add_one, List.take_add_one, h4]
      have e1 := hxy.1
      have e2 := hxy.2
      simp only [List.getD, List.getElem?_eq_getElem l1, List.getElem?_eq_getElem l2, Option.getD_some] at e1 e2
      rw [List.getElem?_eq_getElem l1, List.getElem?_eq_getElem l2, ← e1, ← e2, hxe]
  · cbv
    subst hA hq
    obtain ⟨h1, h2, h3, h4⟩ := hS
    have h : ¬ j < (a : Int) := of_decide_eq_false h
    refine ⟨?_, rfl⟩
    rw [decide_eq_true]
    have : i = xs.length := by omega
    rw [this] at h4
    rw [List.take_length, h3, List.take_length] at h4
    exact h4
end Go.Sx

/- The writer: Align, PutBytes, Bytes, Len, New. -/
set_option maxRecDepth 100000
set_option maxHeartbeats 4000000
set_option linter.unusedVariables false
set_option linter.unusedSimpArgs false
namespace Go.Sx
open Go.Proofs.Try

section
variable {A : Ar} {C : CallT} {W : Int} {P k n hb hr : Nat} {ys : List Int} {hold nI : Int} {s : St} {κ : List Nat → SV → List Ck → Prop}

theorem call_put (hC : C = CallX prog) (hA : A = R) {x kI : Int} (hF : WF W P ys k n hold nI) (hn : n < 8) (hx : 0 ≤ x ∧ x < 4294967296) (hl : ys.length ≤ 10000000000) (hne : hb ≠ hr)
    (h4 : s.H[hb]? = some (.box 94 [.lst hr k, .int .u64 hold, .int .i64 nI])) (h5 : s.H[hr]? = some (.lst 5 1 (A.ints .u8 ys)))
    (hk : ∀ (ys : List Int) (k n : Nat) (hold nI : Int), WF (W + 2 ^ P * (x % 2 ^ PutN kI)) (P + PutN kI) ys k n hold nI → n < 8 →
      κ [hb, hr] (.tup []) (apd (set1 (set1 s.H hb (.box 94 [.lst (len1 s.H) k, .int .u64 hold, .int .i64 nI])) hr .gone) [.lst 5 1 (A.ints .u8 ys)])) : C 66 [.ptr hb 0, .int .u32 x, .int .i64 kI] s κ := by
  have hS := s_put W P k n ys hold nI x kI hF hn hx hl
  rw [← hA] at hS
  refine cal_of hC hS [(hb, 0, true), (hr, 0, true)] ⟨by simp [hne], by simp, trivial⟩ (matchH2 hA ⟨(show 1 < 2 by omega), trivial, trivial, trivial⟩ ⟨rfl, trivial, trivial, trivial⟩ rfl h4 h5) ⟨⟨(show 0 < 2 by omega), trivial, rfl⟩, ⟨trivial, trivial, rfl⟩, ⟨trivial, trivial, rfl⟩, trivial⟩ ?_
  rintro _ _ ⟨rfl, ys', k', n', hold', nI', hF', hn', rfl⟩
  refine ⟨_, _, _, rfl, rfl, backH3 hA rfl, ?_⟩
  have := hk ys' k' n' hold' nI' hF' hn'
  rw [len1_eq] at this
  exact this
end

section
variable {A : Ar} {C : CallT} {W : Int} {P k n hb hr : Nat} {ys : List Int} {hold nI : Int} {s : St} {κ : List Nat → SV → List Ck → Prop}
end

end Go.Sx

/- The document's own reader (01): the other contracts. -/
set_option maxRecDepth 100000
set_option maxHeartbeats 4000000
set_option linter.unusedVariables false
set_option linter.unusedSimpArgs false
namespace Go.Sx
open Go.Proofs.Try

theorem s_rcp (xs : List Int) (m : Nat) (hm : m = xs.length) (hl : xs.length ≤ 1000000000000) : Spec prog 9 [.sl 0 0 m false] [.vw (R.ints .u8 xs)]
    (fun r H => r = .lst 1 m ∧ H = [.vw (R.ints .u8 xs), .lst 5 1 (R.ints .u8 xs)]) := by
  refine Spec_of_kX (D := fun i => (0, [])) (ks := [0, 2, 3]) tok mixed (fn := f9) rfl rfl rfl (by kernel_rfl) (N := 7) rfl (rs := [.tmp 2]) rfl (Nat.le_of_ble_eq_true rfl) fun A C Kp E ag L q hA hC hK hE hag hL hq => ?_
  rw [← hA]
  cbv
  have hsub := subA hA (k := .u8) (xs := xs) (o := 0) (n := m) (by omega)
  rw [List.drop_zero, hm, List.take_length, ← hm] at hsub
  refine bindO_some hsub (guardB_true (scA hA ..) ?_)
  cbv
  refine ⟨by simp only [fitA hA]; unfold room; omega, ?_⟩
  subst hA hq
  exact ⟨rfl, rfl⟩

/-- A place among a row's bits. -/
def RP (xs : List Int) (m p : Nat) (pI : Int) : Prop := pI = p ∧ p ≤ 8 * xs.length ∧ Byt xs ∧ m = xs.length ∧ xs.length ≤ 1000000000

theorem s_rleft (xs : List Int) (m p : Nat) (pI er : Int) (hP : RP xs m p pI) : Spec prog 28 [.ptr 0 0] [.vw [.sl 1 0 m false, .int .i64 pI, .int .i64 er], .vw []]
    (fun r H => r = .int .i64 (if er = 0 then 8 * xs.length - p else 0) ∧ H = [.vw [.sl 1 0 m false, .int .i64 pI, .int .i64 er], .vw []]) := by
  refine Spec_of_kX (D := fun i => if i = 3 then (10, []) else (0, [])) (ks := [0, 2]) tok mixed (fn := f28) rfl rfl rfl (by kernel_rfl) (N := 19) rfl (rs := [.tmp 2]) rfl (Nat.le_of_ble_eq_true rfl) fun A C Kp E ag L q hA hC hK hE hag hL hq => ?_
  cbv
  refine ifB_intro (fun h => ?_) (fun h => ?_)
  · have he := h
    (try simp only [natA hA, lssA hA, leqA hA, gtrA hA, geqA hA, eqlA hA, neqA hA, notA hA, beqA hA, decide_eq_true_eq, decide_eq_false_iff_not, beq_iff_eq, beq_eq_false_iff_ne, bne_iff_ne, bne_eq_false_iff_eq, Bool.not_eq_true', Bool.not_eq_false', ncast, Int.not_lt, Int.not_le, ne_eq, not_true_eq_false, not_false_eq_true, false_or, true_and] at he)
    (try rw [h]); clear h
    cbv
    subst hA hq
    exact ⟨by rw [if_neg he], rfl⟩
  · have he := h
    (try simp only [natA hA, lssA hA, leqA hA, gtrA hA, geqA hA, eqlA hA, neqA hA, notA hA, beqA hA, decide_eq_true_eq, decide_eq_false_iff_not, beq_iff_eq, beq_eq_false_iff_ne, bne_iff_ne, bne_eq_false_iff_eq, Bool.not_eq_true', Bool.not_eq_false', ncast, Int.not_lt, Int.not_le, ne_eq, not_true_eq_false, not_false_eq_true, false_or, true_and] at he)
    (try rw [h]); clear h
    cbv
    subst hA hq
    refine ⟨?_, rfl⟩
    rw [if_pos he]
    show SV.int .i64 (IntKind.i64.wrap (IntKind.i64.wrap (8 * (m : Int)) - pI)) = _
    obtain ⟨h1, h2, h3, h4, h5⟩ := hP
    rw [wrap64 (n := 8 * (m : Int)) (by omega), wrap64 (by omega)]
    simp only [ncast]
    congr 1
    omega

def BitsD (xs : List Int) (p : Nat) (er n : Int) (p' : Nat) (er' y : Int) : Prop :=
  (er ≠ 0 ∧ y = 0 ∧ er' = er ∧ p' = p) ∨ (er = 0 ∧ (n < 0 ∨ 32 < n) ∧ y = 0 ∧ er' = 2 ∧ p' = p) ∨ (er = 0 ∧ 0 ≤ n ∧ n ≤ 32 ∧ 8 * (xs.length : Int) < p + n ∧ y = 0 ∧ er' = 3 ∧ p' = p) ∨
      (er = 0 ∧ 0 ≤ n ∧ n ≤ 32 ∧ p + n ≤ 8 * (xs.length : Int) ∧ y = cut (V xs) p n.toNat ∧ er' = 0 ∧ p' = p + n.toNat)
section
variable {A : Ar} {C : CallT} {xs : List Int} {m p hb hv : Nat} {pI er : Int} {s : St} {κ : List Nat → SV → List Ck → Prop}

theorem rrd {n : Nat} {T : Nat} (h4 : s.H[hb]? = some (.box T [.sl hv 0 m false, .int .i64 pI, .int .i64 er])) (h5 : hv < s.H.length) :
    matchH 2 (linkOf n [(hb, 0, false), (hv, 0, false)]) s.H [(hb, 0, false), (hv, 0, false)] [.vw [.sl 1 0 m false, .int .i64 pI, .int .i64 er], .vw []] := by
  refine ⟨⟨(show 1 < 2 by omega), trivial, trivial, trivial⟩, ⟨trivial, trivial, trivial, trivial⟩, ?_, trivial, trivial, ?_, trivial⟩
  · rw [cellsAt_eq h4 (by simp [Ck.cells])]; rfl
  · rw [cellsAt_eq (List.getElem?_eq_getElem h5) (by simp)]; rfl

theorem call_rleft (hC : C = CallX prog) (hP : RP xs m p pI) {T : Nat} (h4 : s.H[hb]? = some (.box T [.sl hv 0 m false, .int .i64 pI, .int .i64 er])) (h5 : hv < s.H.length) (hk : ∀ y : Int, y = (if er = 0 then 8 * (xs.length : Int) - p else 0) → κ [] (.int .i64 y) s.H) :
    C 28 [.ptr hb 0] s κ :=
  cal_vw hC (s_rleft xs m p pI er hP) [(hb, 0, false), (hv, 0, false)] rfl (rrd h4 h5) ⟨⟨(show 0 < 2 by omega), trivial, rfl⟩, trivial⟩ rfl (hk _ rfl)

/-- A view of a row is handed over. -/
theorem vwA {n : Nat} {f : List Lk} {o : Nat} (hA : A = R) {ws : List Int} (h4 : s.H[hv]? = some (.vw (A.ints .u8 ws))) (hw : xs = (ws.drop o).take m) (hm : m = xs.length) (ho : o + m ≤ ws.length) :
    cellsAt s.H hv o (A.ints .u8 xs).length = some ((A.ints .u8 xs).map (renC (linkOf n f))) := by
  subst hA
  rw [R_ints_length, R_ints_ren, cellsAt_eq h4 (by show o + xs.length ≤ (R.ints .u8 ws).length; rw [R_ints_length]; omega)]
  show some (((ints .u8 ws).drop o).take xs.length) = some (ints .u8 xs)
  rw [ints_drop, ints_take, ← hm, ← hw]

theorem call_number (hC : C = CallX prog) (hA : A = R) {ws : List Int} (hP : RP xs m p pI) {n : Int} (h0 : 0 ≤ n) (h1 : n ≤ 32) (h4 : s.H[hv]? = some (.vw (A.ints .u8 ws))) (hw : xs = ws.take m) (hm : m ≤ ws.length)
    (hk : ∀ y, y = cut (V xs) p n.toNat → κ [] (.int .u32 y) s.H) : C 65 [.sl hv 0 m false, .int .i64 pI, .int .i64 n] s κ := by
  obtain ⟨p1, p2, p3, p4, p5⟩ := hP
  have hS := s_number xs m p3 p4 pI n (by omega) (by omega) h0 h1
  rw [← hA] at hS
  refine cal_vw hC hS [(hv, 0, false)] rfl ⟨hLtsA hA .., zOksA hA .., vwA hA h4 (by rw [List.drop_zero]; exact hw) p4 (by omega), trivial⟩ ⟨⟨(show 0 < 1 by omega), rfl, rfl, rfl⟩, ⟨trivial, trivial, rfl⟩, ⟨trivial, trivial, rfl⟩, trivial⟩ rfl (hk _ ?_)
  rw [p1, Int.toNat_natCast]
end

theorem s_rbits (xs : List Int) (m p : Nat) (pI er n : Int) (hP : RP xs m p pI) : Spec prog 54 [.ptr 0 0, .int .i64 n] [.box 87 [.sl 1 0 m false, .int .i64 pI, .int .i64 er], .vw (R.ints .u8 xs)]
    (fun r H => ∃ (p' : Nat) (pI' er' y : Int), RP xs m p' pI' ∧ BitsD xs p er n p' er' y ∧ r = .int .u32 y ∧ H = [.box 87 [.sl 1 0 m false, .int .i64 pI', .int .i64 er'], .vw (R.ints .u8 xs)]) := by
  refine Spec_of_kX (D := fun i => if i = 10 then (11, []) else (0, [])) (ks := [0, 1, 4]) tok mixed (fn := f54) rfl rfl rfl (by kernel_rfl) (N := 47) rfl (rs := [.tmp 4]) rfl (Nat.le_of_ble_eq_true rfl) fun A C Kp E ag L q hA hC hK hE hag hL hq => ?_
  rw [← hA]
  cbv
  refine ifB_intro (fun h => ?_) (fun h => ?_)
  · have he := h
    (try simp only [natA hA, lssA hA, leqA hA, gtrA hA, geqA hA, eqlA hA, neqA hA, notA hA, beqA hA, decide_eq_true_eq, decide_eq_false_iff_not, beq_iff_eq, beq_eq_false_iff_ne, bne_iff_ne, bne_eq_false_iff_eq, Bool.not_eq_true', Bool.not_eq_false', ncast, Int.not_lt, Int.not_le, ne_eq, not_true_eq_false, not_false_eq_true, false_or, true_and] at he)
    (try rw [h]); clear h
    cbv
    subst hA hq
    exact ⟨p, pI, er, 0, hP, .inl ⟨he, rfl, rfl, rfl⟩, rfl, rfl⟩
  have he := h
  (try simp only [natA hA, lssA hA, leqA hA, gtrA hA, geqA hA, eqlA hA, neqA hA, notA hA, beqA hA, decide_eq_true_eq, decide_eq_false_iff_not, beq_iff_eq, beq_eq_false_iff_ne, bne_iff_ne, bne_eq_false_iff_eq, Bool.not_eq_true', Bool.not_eq_false', ncast, Int.not_lt, Int.not_le, ne_eq, not_true_eq_false, not_false_eq_true, false_or, true_and] at he)
  (try rw [h]); clear h
  cbv
  refine ifB_intro (fun h => ?_) (fun h => ?_)
  · have hn := h
    (try simp only [natA hA, lssA hA, leqA hA, gtrA hA, geqA hA, eqlA hA, neqA hA, notA hA, beqA hA, decide_eq_true_eq, decide_eq_false_iff_not, beq_iff_eq, beq_eq_false_iff_ne, bne_iff_ne, bne_eq_false_iff_eq, Bool.not_eq_true', Bool.not_eq_false', ncast, Int.not_lt, Int.not_le, ne_eq, not_true_eq_false, not_false_eq_true, false_or, true_and] at hn)
    (try rw [h]); clear h
    cbv
    subst hA hq
    exact ⟨p, pI, 2, 0, hP, .inr (.inl ⟨he, .inl hn, rfl, rfl, rfl⟩), rfl, rfl⟩
  have hn := h
  (try simp only [natA hA, lssA hA, leqA hA, gtrA hA, geqA hA, eqlA hA, neqA hA, notA hA, beqA hA, decide_eq_true_eq, decide_eq_false_iff_not, beq_iff_eq, beq_eq_false_iff_ne, bne_iff_ne, bne_eq_false_iff_eq, Bool.not_eq_true', Bool.not_eq_false', ncast, Int.not_lt, Int.not_le, ne_eq, not_true_eq_false, not_false_eq_true, false_or, true_and] at hn)
  (try rw [h]); clear h
  cbv
  refine ifB_intro (fun h => ?_) (fun h => ?_)
  · have hn2 := h
    (try simp only [natA hA, lssA hA, leqA hA, gtrA hA, geqA hA, eqlA hA, neqA hA, notA hA, beqA hA, decide_eq_true_eq, decide_eq_false_iff_not, beq_iff_eq, beq_eq_false_iff_ne, bne_iff_ne, bne_eq_false_iff_eq, Bool.not_eq_true', Bool.not_eq_false', ncast, Int.not_lt, Int.not_le, ne_eq, not_true_eq_false, not_false_eq_true, false_or, true_and] at hn2)
    (try rw [h]); clear h
    cbv
    subst hA hq
    exact ⟨p, pI, 2, 0, hP, .inr (.inl ⟨he, .inr hn2, rfl, rfl, rfl⟩), rfl, rfl⟩
  have hn2 := h
  (try simp only [natA hA, lssA hA, leqA hA, gtrA hA, geqA hA, eqlA hA, neqA hA, notA hA, beqA hA, decide_eq_true_eq, decide_eq_false_iff_not, beq_iff_eq, beq_eq_false_iff_ne, bne_iff_ne, bne_eq_false_iff_eq, Bool.not_eq_true', Bool.not_eq_false', ncast, Int.not_lt, Int.not_le, ne_eq, not_true_eq_false, not_false_eq_true, false_or, true_and] at hn2)
  (try rw [h]); clear h
  cbv
  refine call_rleft hC hP rfl (by simp) fun y hy => ?_
  rw [if_pos he] at hy
  cbv
  have hP' := hP
  obtain ⟨p1, p2, p3, p4, p5⟩ := hP'
  refine ifB_intro (fun h => ?_) (fun h => ?_)
  · have hs := h
    (try simp only [natA hA, lssA hA, leqA hA, gtrA hA, geqA hA, eqlA hA, neqA hA, notA hA, beqA hA, decide_eq_true_eq, decide_eq_false_iff_not, beq_iff_eq, beq_eq_false_iff_ne, bne_iff_ne, bne_eq_false_iff_eq, Bool.not_eq_true', Bool.not_eq_false', ncast, Int.not_lt, Int.not_le, ne_eq, not_true_eq_false, not_false_eq_true, false_or, true_and] at hs)
    (try rw [h]); clear h
    cbv
    subst hA hq
    refine ⟨p, pI, 3, 0, hP, .inr (.inr (.inl ⟨he, hn, hn2, ?_, rfl, rfl, rfl⟩)), rfl, rfl⟩
    (try simp only [ncast] at *)
    omega
  have hs := h
  (try simp only [natA hA, lssA hA, leqA hA, gtrA hA, geqA hA, eqlA hA, neqA hA, notA hA, beqA hA, decide_eq_true_eq, decide_eq_false_iff_not, beq_iff_eq, beq_eq_false_iff_ne, bne_iff_ne, bne_eq_false_iff_eq, Bool.not_eq_true', Bool.not_eq_false', ncast, Int.not_lt, Int.not_le, ne_eq, not_true_eq_false, not_false_eq_true, false_or, true_and] at hs)
  (try rw [h]); clear h
  cbv
  have hroom : p + n ≤ 8 * (xs.length : Int) := by (try simp only [ncast] at *); omega
  have hP2 : RP xs m (p + n.toNat) (A.bin .add .i64 pI n) := by
    refine ⟨?_, by omega, p3, p4, p5⟩
    rw [addA hA, wrap64 (by (try simp only [ncast] at *); omega)]
    (try simp only [ncast] at *)
    omega
  have e2 : A.bin .sub .i64 (A.bin .add .i64 pI n) n = pI := by
    rw [hP2.1, subA' hA, wrap64 (by omega)]
    (try simp only [ncast] at *)
    omega
  obtain ⟨u, hu⟩ : ∃ u, u = A.bin .add .i64 pI n := ⟨_, rfl⟩
  rw [← hu] at hP2 e2
  obtain ⟨v, hv⟩ : ∃ v, v = A.bin .sub .i64 u n := ⟨_, rfl⟩
  have key : C 65 [.sl 1 0 m false, .int .i64 v, .int .i64 n] = C 65 [.sl 1 0 m false, .int .i64 pI, .int .i64 n] := by rw [hv, e2]
  rw [hu] at hv
  rw [hv] at key
  refine key ▸ call_number hC hA (ws := xs) hP hn hn2 rfl (by rw [p4, List.take_length]) (by omega) fun y hy => ?_
  cbv
  subst hA hq
  exact ⟨p + n.toNat, _, 0, y, by rw [hu] at hP2; exact hP2, .inr (.inr (.inr ⟨he, hn, hn2, hroom, hy, rfl, rfl⟩)), rfl, by rw [← he]⟩

end Go.Sx

/- The law of copies over and over: its walk. -/
set_option maxRecDepth 100000
set_option maxHeartbeats 4000000
set_option linter.unusedVariables false
set_option linter.unusedSimpArgs false
namespace Go.Sx
open Go.Proofs.Try

section
variable {A : Ar} {C : CallT} {xs ys : List Int} {a b : Nat} {s : St} {κ : List Nat → SV → List Ck → Prop}
theorem call_same (hC : C = CallX prog) (hA : A = R) (f : List Lk) (h1 o1 h2 o2 : Nat) (hf : f = [(h1, o1, false), (h2, o2, false)]) {av : List SV} (ha : a = xs.length) (hb : b = ys.length) (hl : xs.length ≤ 1000000000000)
    (k1 : cellsAt s.H h1 o1 a = some (A.ints .u8 xs)) (k2 : cellsAt s.H h2 o2 b = some (A.ints .u8 ys)) (hargs : argsOk 2 (linkOf s.H.length f) [.sl 0 0 a false, .sl 1 0 b false] av)
    (hk : ∀ t, t = decide (xs = ys) → κ [] (.bool t) s.H)   : C 12 av s κ := by
  subst hf
  have hS := s_same xs ys a b ha hb hl
  rw [← hA] at hS
  refine cal_vw hC hS [(h1, o1, false), (h2, o2, false)] rfl ⟨hLtsA hA .., zOksA hA .., ?_, hLtsA hA .., zOksA hA .., ?_, trivial⟩ hargs rfl (hk _ rfl)
  · have : (A.ints .u8 xs).length = a := by subst hA; rw [R_ints_length, ha]
    rw [this, renA hA]; exact k1
  · have : (A.ints .u8 ys).length = b := by subst hA; rw [R_ints_length, hb]
    rw [this, renA hA]; exact k2

theorem call_cut (hC : C = CallX prog) (hA : A = R) {hb m : Nat} {n : Int} {bs : List Int} (h0 : 0 ≤ n) (h4 : s.H[hb]? = some (.vw (A.ints .u8 bs))) (hm : m = bs.length) (hk : ∀ k : Nat, k = min m n.toNat → κ [] (.sl hb 0 k false) s.H) : C 8 [.sl hb 0 m false, .int .i64 n] s κ := by
  have hcut := s_cut bs m n h0
  rw [← hA] at hcut
  refine cal_of hC hcut [(hb, 0, false)] ⟨by simp, trivial⟩ ⟨hLtsA hA .., zOksA hA .., ?_, trivial⟩ ⟨⟨(show 0 < 1 by omega), rfl, rfl, rfl⟩, ⟨trivial, trivial, rfl⟩, trivial⟩ ?_
  · rw [renA hA, cellsAt_eq h4 (by simp [Ck.cells])]
    simp [Ck.cells]
  rintro _ _ ⟨k, hkk, rfl, rfl⟩
  refine ⟨_, _, s.H, rfl, rfl, ?_, hk k hkk⟩
  simp [backH, setAll]
end

end Go.Sx

/- lzw: LzwClears. -/
set_option maxRecDepth 100000
set_option maxHeartbeats 4000000
set_option linter.unusedVariables false
set_option linter.unusedSimpArgs false
namespace Go.Sx
open Go.Proofs.Try

def b2i (b : Bool) : Int := if b then 1 else 0
theorem b2i_ne (b : Bool) : (b2i b != 0) = b := by cases b <;> rfl
/-- The links of the codes below j. -/
structure HdQ (ps es : List Int) (j : Nat) (rs bs : List (List Int)) : Prop where
  rl : rs.length = j
  bl : bs.length = j
  at_ : ∀ q, q < j → ∃ p c b, LkQ ps es (q : Int) p c b ∧ rs.getD q [] = [p, c] ∧ bs.getD q [] = [b2i b]
theorem HdQ.step {ps es : List Int} {j : Nat} {rs bs : List (List Int)} (h : HdQ ps es j rs bs) {p c : Int} {b : Bool} {i : Int} (hi : i = (j : Int)) (hQ : LkQ ps es i p c b) : HdQ ps es (j + 1) (rs ++ [[p, c]]) (bs ++ [[b2i b]]) := by
  refine ⟨by rw [List.length_append, h.rl]; rfl, by rw [List.length_append, h.bl]; rfl, fun q hq => ?_⟩
  rcases Nat.lt_or_ge q j with hlt | hge
  · obtain ⟨p', c', b', h1, h2, h3⟩ := h.at_ q hlt
    refine ⟨p', c', b', h1, ?_, ?_⟩
    · rw [List.getD, List.getElem?_append_left (by rw [h.rl]; exact hlt), ← List.getD, h2]
    · rw [List.getD, List.getElem?_append_left (by rw [h.bl]; exact hlt), ← List.getD, h3]
  · have : q = j := by omega
    subst this
    refine ⟨p, c, b, by rw [← hi]; exact hQ, ?_, ?_⟩
    · rw [List.getD, List.getElem?_append_right (by rw [h.rl]; exact hge), h.rl, Nat.sub_self]; rfl
    · rw [List.getD, List.getElem?_append_right (by rw [h.bl]; exact hge), h.bl, Nat.sub_self]; rfl

theorem HdQ.has {ps es : List Int} {rs bs : List (List Int)} (h : HdQ ps es 600 rs bs) {q : Nat} (h1 : 257 ≤ q) (h2 : q < 600) : ((((bs.getD q []).getD 0 0 != 0) = true) ↔ ps.getD q 0 ≠ -1) ∧ (ps.getD q 0 ≠ -1 → (rs.getD q []).getD 0 0 = ps.getD q 0 ∧ (rs.getD q []).getD 1 0 = es.getD q 0) := by
  obtain ⟨p, c, b, hQ, e1, e2⟩ := h.at_ q h2
  rw [e1, e2]
  have e3 : [b2i b].getD 0 0 = b2i b := rfl
  rw [e3, b2i_ne]
  rcases hQ with ⟨⟨_, _, a3⟩, a4, a5, a6⟩ | ⟨a1, a4, _⟩
  · exact ⟨⟨fun _ => a3, fun _ => a4⟩, fun _ => ⟨a5, a6⟩⟩
  · have a3 : ¬ ps.getD q 0 ≠ -1 := fun h => a1 ⟨by omega, by omega, h⟩
    exact ⟨⟨fun h => (by rw [h] at a4; cases a4), fun h => absurd h a3⟩, fun h => absurd h a3⟩
/-- Somebody below kq has i as its parent. -/
def PaQ (ps : List Int) (i : Int) (kq : Nat) (pa : Bool) : Prop := pa = true ↔ ∃ q, 257 ≤ q ∧ q < kq ∧ ps.getD q 0 ≠ -1 ∧ ps.getD q 0 = i
theorem PaQ.keep {ps : List Int} {i : Int} {kq : Nat} (h : PaQ ps i kq true) : PaQ ps i (kq + 1) true := ⟨fun _ => by obtain ⟨q, q1, q2, q3⟩ := h.1 rfl; exact ⟨q, q1, by omega, q3⟩, fun _ => rfl⟩
end Go.Sx

/- lzw: the document's own table (10): where a code stands. -/
set_option maxRecDepth 100000
set_option maxHeartbeats 4000000
set_option linter.unusedVariables false
set_option linter.unusedSimpArgs false
namespace Go.Sx
open Go.Proofs.Try

def RowK : List FK := [.num .i64, .num .i64, .num .u8]
def rcode (rs : List (List Int)) (k : Nat) : Int := (rs.getD k []).getD 0 0
/-- By rising codes. -/
def Rising (rs : List (List Int)) : Prop := ∀ a b, a < b → b < rs.length → rcode rs a < rcode rs b
def AtQ (rs : List (List Int)) (code a : Int) : Prop := (∃ k : Nat, k < rs.length ∧ rcode rs k = code ∧ a = (k : Int)) ∨ (a = -1 ∧ ∀ k, k < rs.length → rcode rs k ≠ code)
def RH (k : Nat) (last : Int) (cs : List SV) : List Ck := [.vw [.lst 1 k, .int .i64 last], .vw cs]

theorem s_xat (rs : List (List Int)) (cs : List SV) (k : Nat) (last code : Int) (hk : k = rs.length) (hl : rs.length ≤ 8192) (rwR : RWs RowK rs cs) (hR : Rising rs) : Spec prog 56 [.ptr 0 0, .int .i64 code] (RH k last cs) (fun r H => ∃ a, AtQ rs code a ∧ r = .int .i64 a ∧ H = RH k last cs) := by
  refine Spec_of_kX (D := fun i => if i = 1 then (6, []) else (0, [])) (ks := [0, 1, 4, 5, 6, 7]) tok mixed (fn := f56) rfl rfl rfl (by kernel_rfl) (N := 53) rfl (rs := [.tmp 4]) rfl (Nat.le_of_ble_eq_true rfl) fun A C Kp E ag L q hA hC hK hE hag hL hq => ?_
  cbv
  rw [hL]
  refine loop_keep (fun kk s => ∃ (lo hi : Int) (a b : Nat), lo = (a : Int) ∧ hi = (b : Int) ∧ a ≤ b ∧ b ≤ rs.length ∧ (∀ q, q < a → rcode rs q < code) ∧ (∀ q, b ≤ q → q < rs.length → code ≤ rcode rs q) ∧ kk = b - a ∧ s = ⟨[(0, .ptr 0 0), (1, .int .i64 code), (4, .int .i64 0), (5, .int .i64 lo), (6, .int .i64 hi)], RH k last cs⟩)
    [0, 1, 4, 5, 6] rs.length ⟨0, A.nat k, 0, k, rfl, by rw [natA hA], by omega, by omega, fun q hq => by omega, fun q q1 q2 => by omega, by omega, rfl⟩ ?_
  rintro kk _ ⟨lo, hi, a, b, hlo, hhi, hab, hb, hP, hS, hkk, rfl⟩
  cbv
  (try simp only [ncast] at *)
  refine ifB_intro (fun h => ?_) (fun h => ?_)
  · have h1 := h
    (try simp only [natA hA, lssA hA, leqA hA, gtrA hA, geqA hA, eqlA hA, neqA hA, notA hA, beqA hA, decide_eq_true_eq, decide_eq_false_iff_not, beq_iff_eq, beq_eq_false_iff_ne, bne_iff_ne, bne_eq_false_iff_eq, Bool.not_eq_true', Bool.not_eq_false', ncast, Int.not_lt, Int.not_le, ne_eq, not_true_eq_false, not_false_eq_true, false_or, true_and] at h1)
    (try rw [h]); clear h
    cbv
    (try simp only [ncast] at *)
    obtain ⟨mI, md, hmI, hmd⟩ : ∃ (mI : Int) (md : Nat), mI = (md : Int) ∧ md = (a + b) / 2 := ⟨_, _, rfl, rfl⟩
    have em : A.bin .quo .i64 (A.bin .add .i64 lo hi) 2 = mI := by
      rw [quoA hA, addA hA, wrap64 (n := lo + hi) (by omega), Int.tdiv_eq_ediv_of_nonneg (by omega), wrap64 (by omega)]
      omega
    have e1 : A.bin .add .i64 mI 1 = mI + 1 := by rw [addA hA, wrap64 (by omega)]
    have hn2 : A.ne0 2 := by rw [ne0A hA]; omega
    simp only [em]
    refine ⟨hn2, ?_⟩
    refine rwR.fld hA (m := 3) 0 rfl rfl ⟨by omega, by omega⟩ (by omega) fun x hx => ?_
    have hx : x = rcode rs md := by rw [hx, show mI.toNat = md by omega]; rfl
    have hcf : cellF (.num .i64) x = .int .i64 x := rfl
    rw [hcf]
    clear hcf em hn2
    cbv
    (try simp only [ncast] at *)
    refine ifB_intro (fun h => ?_) (fun h => ?_)
    · have h2 := h
      (try simp only [natA hA, lssA hA, leqA hA, gtrA hA, geqA hA, eqlA hA, neqA hA, notA hA, beqA hA, decide_eq_true_eq, decide_eq_false_iff_not, beq_iff_eq, beq_eq_false_iff_ne, bne_iff_ne, bne_eq_false_iff_eq, Bool.not_eq_true', Bool.not_eq_false', ncast, Int.not_lt, Int.not_le, ne_eq, not_true_eq_false, not_false_eq_true, false_or, true_and] at h2)
      (try rw [h]); clear h
      cbv
      (try simp only [ncast] at *)
      simp only [e1]
      subst hag
      refine ⟨b - (md + 1), ⟨[(0, .ptr 0 0), (1, .int .i64 code), (4, .int .i64 0), (5, .int .i64 (mI + 1)), (6, .int .i64 hi)], RH k last cs⟩, by omega, ?_, mI + 1, hi, md + 1, b, by omega, hhi, by omega, hb, fun q hq1 => ?_, hS, rfl, rfl⟩
      · subst hA
        unfold RH
        exact Sub_of [0, 1] (by simp [sigOk, ndG]) (by simp) (by repeat' (first | exact trivial | exact fun _ => rfl | exact fun h => absurd h (by simp) | exact subC_ints rfl | exact subC_rw rwR rfl | exact subC_rwv rwR rfl rfl | refine And.intro ?_ ?_ | rfl | (simp [subH_nil, hLts, hLt, renCk, renC, sg, Ck.cells, R_ints_ren, R_ints_hLts]; done))) (by repeat' (first | exact trivial | exact .inr ⟨trivial, rfl⟩ | exact .inr ⟨by simp [vOk, hLt, hLts], rfl⟩ | refine And.intro ?_ ?_))
      · rcases Nat.lt_or_ge q md with hlt | hge
        · have := hR q md hlt (by omega); omega
        · rw [show q = md by omega]; omega
    · have h2 := h
      (try simp only [natA hA, lssA hA, leqA hA, gtrA hA, geqA hA, eqlA hA, neqA hA, notA hA, beqA hA, decide_eq_true_eq, decide_eq_false_iff_not, beq_iff_eq, beq_eq_false_iff_ne, bne_iff_ne, bne_eq_false_iff_eq, Bool.not_eq_true', Bool.not_eq_false', ncast, Int.not_lt, Int.not_le, ne_eq, not_true_eq_false, not_false_eq_true, false_or, true_and] at h2)
      (try rw [h]); clear h
      cbv
      (try simp only [ncast] at *)
      subst hag
      refine ⟨md - a, ⟨[(0, .ptr 0 0), (1, .int .i64 code), (4, .int .i64 0), (5, .int .i64 lo), (6, .int .i64 mI)], RH k last cs⟩, by omega, ?_, lo, mI, a, md, hlo, hmI, by omega, by omega, hP, fun q hq1 hq2 => ?_, rfl, rfl⟩
      · subst hA
        unfold RH
        exact Sub_of [0, 1] (by simp [sigOk, ndG]) (by simp) (by repeat' (first | exact trivial | exact fun _ => rfl | exact fun h => absurd h (by simp) | exact subC_ints rfl | exact subC_rw rwR rfl | exact subC_rwv rwR rfl rfl | refine And.intro ?_ ?_ | rfl | (simp [subH_nil, hLts, hLt, renCk, renC, sg, Ck.cells, R_ints_ren, R_ints_hLts]; done))) (by repeat' (first | exact trivial | exact .inr ⟨trivial, rfl⟩ | exact .inr ⟨by simp [vOk, hLt, hLts], rfl⟩ | refine And.intro ?_ ?_))
      · rcases Nat.lt_or_ge md q with hlt | hge
        · have := hR md q hlt hq2; omega
        · rw [show q = md by omega]; omega
  · have h1 := h
    (try simp only [natA hA, lssA hA, leqA hA, gtrA hA, geqA hA, eqlA hA, neqA hA, notA hA, beqA hA, decide_eq_true_eq, decide_eq_false_iff_not, beq_iff_eq, beq_eq_false_iff_ne, bne_iff_ne, bne_eq_false_iff_eq, Bool.not_eq_true', Bool.not_eq_false', ncast, Int.not_lt, Int.not_le, ne_eq, not_true_eq_false, not_false_eq_true, false_or, true_and] at h1)
    (try rw [h]); clear h
    cbv
    (try simp only [ncast] at *)
    have hab2 : a = b := by omega
    subst hab2
    refine ifB_intro (fun h => ?_) (fun h => ?_)
    · have h2 := h
      (try simp only [natA hA, lssA hA, leqA hA, gtrA hA, geqA hA, eqlA hA, neqA hA, notA hA, beqA hA, decide_eq_true_eq, decide_eq_false_iff_not, beq_iff_eq, beq_eq_false_iff_ne, bne_iff_ne, bne_eq_false_iff_eq, Bool.not_eq_true', Bool.not_eq_false', ncast, Int.not_lt, Int.not_le, ne_eq, not_true_eq_false, not_false_eq_true, false_or, true_and] at h2)
      (try rw [h]); clear h
      cbv
      (try simp only [ncast] at *)
      refine rwR.fld hA (m := 3) 0 rfl rfl ⟨by omega, by omega⟩ (by omega) fun x hx => ?_
      have hx : x = rcode rs a := by rw [hx, show lo.toNat = a by omega]; rfl
      have hcf : cellF (.num .i64) x = .int .i64 x := rfl
      rw [hcf]
      clear hcf
      cbv
      (try simp only [ncast] at *)
      refine ifB_intro (fun h => ?_) (fun h => ?_)
      · have h3 := h
        (try simp only [natA hA, lssA hA, leqA hA, gtrA hA, geqA hA, eqlA hA, neqA hA, notA hA, beqA hA, decide_eq_true_eq, decide_eq_false_iff_not, beq_iff_eq, beq_eq_false_iff_ne, bne_iff_ne, bne_eq_false_iff_eq, Bool.not_eq_true', Bool.not_eq_false', ncast, Int.not_lt, Int.not_le, ne_eq, not_true_eq_false, not_false_eq_true, false_or, true_and] at h3)
        (try rw [h]); clear h
        cbv
        (try simp only [ncast] at *)
        subst hA hq
        exact ⟨lo, .inl ⟨a, by omega, by omega, hlo⟩, rfl, rfl⟩
      · have h3 := h
        (try simp only [natA hA, lssA hA, leqA hA, gtrA hA, geqA hA, eqlA hA, neqA hA, notA hA, beqA hA, decide_eq_true_eq, decide_eq_false_iff_not, beq_iff_eq, beq_eq_false_iff_ne, bne_iff_ne, bne_eq_false_iff_eq, Bool.not_eq_true', Bool.not_eq_false', ncast, Int.not_lt, Int.not_le, ne_eq, not_true_eq_false, not_false_eq_true, false_or, true_and] at h3)
        (try rw [h]); clear h
        cbv
        (try simp only [ncast] at *)
        subst hA hq
        refine ⟨-1, .inr ⟨rfl, fun q hq1 => ?_⟩, rfl, rfl⟩
        rcases Nat.lt_or_ge q a with hlt | hge
        · have := hP q hlt; omega
        · rcases Nat.lt_or_ge a q with hlt | hge2
          · have h5 := hR a q hlt hq1
            have h6 := hS a (Nat.le_refl _) (by omega)
            omega
          · rw [show q = a by omega]; omega
    · have h2 := h
      (try simp only [natA hA, lssA hA, leqA hA, gtrA hA, geqA hA, eqlA hA, neqA hA, notA hA, beqA hA, decide_eq_true_eq, decide_eq_false_iff_not, beq_iff_eq, beq_eq_false_iff_ne, bne_iff_ne, bne_eq_false_iff_eq, Bool.not_eq_true', Bool.not_eq_false', ncast, Int.not_lt, Int.not_le, ne_eq, not_true_eq_false, not_false_eq_true, false_or, true_and] at h2)
      (try rw [h]); clear h
      cbv
      (try simp only [ncast] at *)
      subst hA hq
      refine ⟨-1, .inr ⟨rfl, fun q hq1 => ?_⟩, rfl, rfl⟩
      have := hP q (by omega)
      omega

def hasR (rs : List (List Int)) (c : Int) : Prop := ∃ k, k < rs.length ∧ rcode rs k = c
theorem AtQ.has {rs : List (List Int)} {c a : Int} (h : AtQ rs c a) : (0 ≤ a ↔ hasR rs c) := by
  rcases h with ⟨k, h1, h2, h3⟩ | ⟨h1, h2⟩
  · exact ⟨fun _ => ⟨k, h1, h2⟩, fun _ => by omega⟩
  · exact ⟨fun h => by omega, fun ⟨k, h3, h4⟩ => absurd h4 (h2 k h3)⟩
section
variable {A : Ar} {C : CallT} {s : St} {κ : List Nat → SV → List Ck → Prop} {rs : List (List Int)} {cs : List SV} {k h0 h1 : Nat} {last : Int}
theorem matchR (rwR : RWs RowK rs cs) (k0 : cellsAt s.H h0 0 2 = some [.lst h1 k, .int .i64 last]) (k1 : cellsAt s.H h1 0 cs.length = some cs) : matchH 2 (linkOf s.H.length [(h0, 0, false), (h1, 0, false)]) s.H [(h0, 0, false), (h1, 0, false)] (RH k last cs) :=
  ⟨⟨(show 1 < 2 by omega), trivial, trivial⟩, ⟨rfl, trivial, trivial⟩, k0, rwR.hLts _, rwR.zOks _, by rw [rwR.ren]; exact k1, trivial⟩
theorem call_xat (hC : C = CallX prog) (hk : k = rs.length) (hl : rs.length ≤ 8192) (rwR : RWs RowK rs cs) (hR : Rising rs) {code : Int} (k0 : cellsAt s.H h0 0 2 = some [.lst h1 k, .int .i64 last]) (k1 : cellsAt s.H h1 0 cs.length = some cs)
    (hκ : ∀ a, AtQ rs code a → κ [] (.int .i64 a) s.H) : C 56 [.ptr h0 0, .int .i64 code] s κ := by
  refine cal_of hC (s_xat rs cs k last code hk hl rwR hR) [(h0, 0, false), (h1, 0, false)] ?_ (matchR rwR k0 k1) ⟨⟨(show 0 < 2 by omega), trivial, rfl⟩, ⟨trivial, trivial, rfl⟩, trivial⟩ ?_
  · simp [lkOk]
  rintro _ _ ⟨a, h, rfl, rfl⟩
  refine ⟨[], .int .i64 a, s.H, rfl, rfl, ?_, hκ a h⟩
  simp [backH, setAll, RH]
end
theorem cells_self {H : List Ck} {j : Nat} {cs : List SV} {c : Ck} (hc : H[j]? = some c) (he : c.cells = cs) : cellsAt H j 0 cs.length = some cs := by
  rw [cellsAt_eq hc (by rw [he]; omega), he, List.drop_zero, List.take_length]

/-- The least code that has no row. -/
def XnQ (rs : List (List Int)) (last n : Int) : Prop := (n = -1 ∧ ∀ c, last < c → c < 8192 → hasR rs c) ∨ (last < n ∧ n < 8192 ∧ ¬ hasR rs n ∧ ∀ c, last < c → c < n → hasR rs c)
theorem s_xnext (rs : List (List Int)) (cs : List SV) (k : Nat) (last : Int) (hk : k = rs.length) (hl : rs.length ≤ 8192) (hla : 256 ≤ last ∧ last ≤ 8191) (rwR : RWs RowK rs cs) (hR : Rising rs) : Spec prog 45 [.ptr 0 0] (RH k last cs) (fun r H => ∃ n, XnQ rs last n ∧ r = .int .i64 n ∧ H = RH k last cs) := by
  refine Spec_of_kX (D := fun i => (0, [])) (ks := [0, 2, 3]) tok mixed (fn := f45) rfl rfl rfl (by kernel_rfl) (N := 18) rfl (rs := [.tmp 2]) rfl (Nat.le_of_ble_eq_true rfl) fun A C Kp E ag L q hA hC hK hE hag hL hq => ?_
  cbv
  have e1 : A.bin .add .i64 last 1 = last + 1 := by rw [addA hA, wrap64 (by omega)]
  simp only [e1]
  rw [hL]
  refine loop_keep (fun kk s => ∃ (i : Int), last < i ∧ i ≤ 8192 ∧ (∀ c, last < c → c < i → hasR rs c) ∧ kk = (8192 - i).toNat ∧ s = ⟨[(0, .ptr 0 0), (2, .int .i64 0), (3, .int .i64 i)], RH k last cs⟩)
    [0, 2, 3] (8192 - (last + 1)).toNat ⟨last + 1, by omega, by omega, fun c h1 h2 => by omega, rfl, rfl⟩ ?_
  rintro kk _ ⟨i, hi, hi2, hno, hkk, rfl⟩
  have e2 : A.bin .add .i64 i 1 = i + 1 := by rw [addA hA, wrap64 (by omega)]
  cbv
  (try simp only [ncast] at *)
  refine ifB_intro (fun h => ?_) (fun h => ?_)
  · have hlt := h
    (try simp only [natA hA, lssA hA, leqA hA, gtrA hA, geqA hA, eqlA hA, neqA hA, notA hA, beqA hA, decide_eq_true_eq, decide_eq_false_iff_not, beq_iff_eq, beq_eq_false_iff_ne, bne_iff_ne, bne_eq_false_iff_eq, Bool.not_eq_true', Bool.not_eq_false', ncast, Int.not_lt, Int.not_le, ne_eq, not_true_eq_false, not_false_eq_true, false_or, true_and] at hlt)
    (try rw [h]); clear h
    cbv
    (try simp only [ncast] at *)
    refine call_xat hC (h0 := 0) (h1 := 1) (rs := rs) (cs := cs) (k := k) (last := last) hk hl rwR hR rfl (cells_self (c := .vw cs) rfl rfl) fun a ha => ?_
    have hah := ha.has
    clear ha
    cbv
    (try simp only [ncast] at *)
    refine ifB_intro (fun h => ?_) (fun h => ?_)
    · have hneg := h
      (try simp only [natA hA, lssA hA, leqA hA, gtrA hA, geqA hA, eqlA hA, neqA hA, notA hA, beqA hA, decide_eq_true_eq, decide_eq_false_iff_not, beq_iff_eq, beq_eq_false_iff_ne, bne_iff_ne, bne_eq_false_iff_eq, Bool.not_eq_true', Bool.not_eq_false', ncast, Int.not_lt, Int.not_le, ne_eq, not_true_eq_false, not_false_eq_true, false_or, true_and] at hneg)
      (try rw [h]); clear h
      cbv
      (try simp only [ncast] at *)
      subst hA hq
      exact ⟨i, .inr ⟨hi, hlt, fun h => by have := hah.2 h; omega, hno⟩, rfl, rfl⟩
    · have hpos := h
      (try simp only [natA hA, lssA hA, leqA hA, gtrA hA, geqA hA, eqlA hA, neqA hA, notA hA, beqA hA, decide_eq_true_eq, decide_eq_false_iff_not, beq_iff_eq, beq_eq_false_iff_ne, bne_iff_ne, bne_eq_false_iff_eq, Bool.not_eq_true', Bool.not_eq_false', ncast, Int.not_lt, Int.not_le, ne_eq, not_true_eq_false, not_false_eq_true, false_or, true_and] at hpos)
      (try rw [h]); clear h
      cbv
      (try simp only [ncast] at *)
      simp only [e2]
      subst hag
      refine ⟨(8192 - (i + 1)).toNat, ⟨[(0, .ptr 0 0), (2, .int .i64 0), (3, .int .i64 (i + 1))], RH k last cs⟩, by omega, ?_, i + 1, by omega, by omega, fun c h1 h2 => ?_, rfl, rfl⟩
      · subst hA
        unfold RH
        exact Sub_of [0, 1] (by simp [sigOk, ndG]) (by simp) (by repeat' (first | exact trivial | exact fun _ => rfl | exact fun h => absurd h (by simp) | exact subC_ints rfl | exact subC_rw rwR rfl | exact subC_rwv rwR rfl rfl | refine And.intro ?_ ?_ | rfl | (simp [subH_nil, hLts, hLt, renCk, renC, sg, Ck.cells, R_ints_ren, R_ints_hLts]; done))) (by repeat' (first | exact trivial | exact .inr ⟨trivial, rfl⟩ | exact .inr ⟨by simp [vOk, hLt, hLts], rfl⟩ | refine And.intro ?_ ?_))
      · rcases Int.lt_or_le c i with h3 | h3
        · exact hno c h1 h3
        · rw [show c = i by omega]; exact hah.1 hpos
  · have hge := h
    (try simp only [natA hA, lssA hA, leqA hA, gtrA hA, geqA hA, eqlA hA, neqA hA, notA hA, beqA hA, decide_eq_true_eq, decide_eq_false_iff_not, beq_iff_eq, beq_eq_false_iff_ne, bne_iff_ne, bne_eq_false_iff_eq, Bool.not_eq_true', Bool.not_eq_false', ncast, Int.not_lt, Int.not_le, ne_eq, not_true_eq_false, not_false_eq_true, false_or, true_and] at hge)
    (try rw [h]); clear h
    cbv
    (try simp only [ncast] at *)
    subst hA hq
    exact ⟨-1, .inl ⟨rfl, fun c h1 h2 => hno c h1 (by omega)⟩, rfl, rfl⟩
end Go.Sx

/- lzw: the document's own table (10): New, Child. -/
set_option maxRecDepth 100000
set_option maxHeartbeats 4000000
set_option linter.unusedVariables false
set_option linter.unusedSimpArgs false
namespace Go.Sx
open Go.Proofs.Try

/-- A row's parent, its end. -/
def rpar (rs : List (List Int)) (k : Nat) : Int := (rs.getD k []).getD 1 0
def rend (rs : List (List Int)) (k : Nat) : Int := (rs.getD k []).getD 2 0
end Go.Sx

/- lzw: the document's own table (10): a code's string. -/
set_option maxRecDepth 100000
set_option maxHeartbeats 4000000
set_option linter.unusedVariables false
set_option linter.unusedSimpArgs false
namespace Go.Sx
open Go.Proofs.Try

/-- Where a code's row stands. -/
def xat (rs : List (List Int)) (c : Int) : Option Nat := (List.range rs.length).find? fun k => rcode rs k == c
theorem AtQ.xat {rs : List (List Int)} {c a : Int} (hR : Rising rs) (h : AtQ rs c a) : (a = -1 ∧ xat rs c = none) ∨ ∃ k : Nat, k < rs.length ∧ a = (k : Int) ∧ Sx.xat rs c = some k ∧ rcode rs k = c := by
  rcases h with ⟨k, h1, h2, h3⟩ | ⟨h1, h2⟩
  · refine .inr ⟨k, h1, h3, ?_, h2⟩
    unfold Sx.xat
    cases hf : (List.range rs.length).find? fun k => rcode rs k == c with
    | none =>
      have := List.find?_eq_none.1 hf k (List.mem_range.2 h1)
      simp [h2] at this
    | some q =>
      have hq := List.find?_some hf
      have hm := List.mem_range.1 (List.mem_of_find?_eq_some hf)
      have hq : rcode rs q = c := by simpa using hq
      rcases Nat.lt_trichotomy q k with hlt | he | hlt
      · have := hR q k hlt h1; omega
      · rw [he]
      · have := hR k q hlt hm; omega
  · refine .inl ⟨h1, ?_⟩
    unfold Sx.xat
    exact List.find?_eq_none.2 fun k hk => by simpa using h2 k (List.mem_range.1 hk)
/-- A code's string, over so many rows. -/
def xtxt (rs : List (List Int)) : Nat → Int → Option (List Int)
  | 0, _ => none
  | f + 1, c => if 0 ≤ c ∧ c < 256 then some [c] else match xat rs c with
    | none => none
    | some k => (xtxt rs f (rpar rs k)).map fun t => t ++ [rend rs k]

def XtQ (rs : List (List Int)) (code : Int) (t : List Int) (b : Bool) : Prop := (xtxt rs (rs.length + 1) code = some t ∧ b = true) ∨ (xtxt rs (rs.length + 1) code = none ∧ b = false ∧ t = [])
theorem s_xtext (rs : List (List Int)) (cs : List SV) (k : Nat) (last code : Int) (hk : k = rs.length) (hl : rs.length ≤ 8192) (rwR : RWs RowK rs cs) (hR : Rising rs) : Spec prog 44 [.ptr 0 0, .int .i64 code] (RH k last cs)
    (fun r H => ∃ (t : List Int) (b : Bool) (n : Nat), XtQ rs code t b ∧ n = t.length ∧ r = .tup [.lst 2 n, .bool b] ∧ H = RH k last cs ++ [.lst 5 1 (R.ints .u8 t)]) := by
  refine Spec_of_kF (D := fun i => (0, [])) (ks := [0, 1, 4, 5, 6, 7, 8, 9, 10]) tok mixed (fn := f44) rfl rfl rfl (by kernel_rfl) (N := 70) rfl (rs := [.tmp 4, .tmp 5]) rfl (Nat.le_of_ble_eq_true rfl) fun A C Kp E ag L q hA hC hK hE hag hL hq => ?_
  cbv
  rw [hL]
  refine ⟨fun kk s => ∃ (i c : Int) (j n : Nat) (acc : List Int), i = (j : Int) ∧ j ≤ rs.length + 1 ∧ acc.length = j ∧ n = j ∧ xtxt rs (rs.length + 1) code = (xtxt rs (rs.length + 1 - j) c).map (fun t => t ++ acc.reverse) ∧ kk = rs.length + 1 - j ∧
      s = ⟨[(0, .ptr 0 0), (1, .int .i64 c), (6, .lst 2 n), (7, .int .i64 i)], RH k last cs ++ [.lst 5 1 (A.ints .u8 acc)]⟩,
    ⟨rs.length + 1, ⟨[(0, .ptr 0 0), (1, .int .i64 code), (6, .lst 2 0), (7, .int .i64 0)], RH k last cs ++ [.lst 5 1 (A.ints .u8 [])]⟩, ?_, 0, code, 0, 0, [], rfl, by omega, rfl, rfl, ?_, rfl, rfl⟩, ?_⟩
  · subst hA
    refine (Sub_nilT (i := 6) 5 1 rfl).trans ?_
    unfold RH
    exact Sub_of [0, 1, 2] (by simp [sigOk, ndG]) (by simp) (by repeat' (first | exact trivial | exact fun _ => rfl | exact fun h => absurd h (by simp) | exact subC_ints rfl | exact subC_rw rwR rfl | exact subC_rwv rwR rfl rfl | refine And.intro ?_ ?_ | rfl | (simp [subH_nil, hLts, hLt, renCk, renC, sg, Ck.cells, R_ints_ren, R_ints_hLts]; done))) (by repeat' (first | exact trivial | exact .inr ⟨trivial, rfl⟩ | exact .inr ⟨by simp [vOk, hLt, hLts], rfl⟩ | refine And.intro ?_ ?_))
  · cases xtxt rs (rs.length + 1) code with
    | none => rfl
    | some t => simp
  rintro kk _ ⟨i, c, j, n, acc, hi, hj, hal, hnj, htx, hkk, rfl⟩
  cbv
  (try simp only [ncast] at *)
  have e2 : A.bin .add .i64 i 1 = i + 1 := by rw [addA hA, wrap64 (by omega)]
  obtain ⟨T, hT⟩ : ∃ T, T = xtxt rs (rs.length + 1) code := ⟨_, rfl⟩
  rw [← hT] at htx
  refine ifB_intro (fun h => ?_) (fun h => ?_)
  · have h1 := h
    (try simp only [natA hA, lssA hA, leqA hA, gtrA hA, geqA hA, eqlA hA, neqA hA, notA hA, beqA hA, decide_eq_true_eq, decide_eq_false_iff_not, beq_iff_eq, beq_eq_false_iff_ne, bne_iff_ne, bne_eq_false_iff_eq, Bool.not_eq_true', Bool.not_eq_false', ncast, Int.not_lt, Int.not_le, ne_eq, not_true_eq_false, not_false_eq_true, false_or, true_and] at h1)
    (try rw [h]); clear h
    cbv
    (try simp only [ncast] at *)
    have hm : rs.length + 1 - j = (rs.length + 1 - (j + 1)) + 1 := by omega
    refine ifB_intro (fun h => ?_) (fun h => ?_)
    · have h2 := h
      (try simp only [natA hA, lssA hA, leqA hA, gtrA hA, geqA hA, eqlA hA, neqA hA, notA hA, beqA hA, decide_eq_true_eq, decide_eq_false_iff_not, beq_iff_eq, beq_eq_false_iff_ne, bne_iff_ne, bne_eq_false_iff_eq, Bool.not_eq_true', Bool.not_eq_false', ncast, Int.not_lt, Int.not_le, ne_eq, not_true_eq_false, not_false_eq_true, false_or, true_and] at h2)
      (try rw [h]); clear h
      cbv
      (try simp only [ncast] at *)
      refine ifB_intro (fun h => ?_) (fun h => ?_)
      · have h3 := h
        (try simp only [natA hA, lssA hA, leqA hA, gtrA hA, geqA hA, eqlA hA, neqA hA, notA hA, beqA hA, decide_eq_true_eq, decide_eq_false_iff_not, beq_iff_eq, beq_eq_false_iff_ne, bne_iff_ne, bne_eq_false_iff_eq, Bool.not_eq_true', Bool.not_eq_false', ncast, Int.not_lt, Int.not_le, ne_eq, not_true_eq_false, not_false_eq_true, false_or, true_and] at h3)
        (try rw [h]); clear h
        cbv
        (try simp only [ncast] at *)
        rw [hm, xtxt, if_pos ⟨h2, h3⟩] at htx
        have hw : A.wrap .u8 c = c := by rw [wrapA hA, Go.IntKind.wrap_u8]; omega
        obtain ⟨z0, hz0⟩ : ∃ z0, z0 = (n : Int) - 1 := ⟨_, rfl⟩
        have en : A.bin .sub .i64 (A.nat n) 1 = z0 := by rw [subA' hA, natA hA, wrap64 (by omega), hz0]
        simp only [hw, en]
        have h1c : A.ints .u8 [c] = [.int .u8 c] := by subst hA; rfl
        rw [← h1c]
        refine loop_keep (fun kk s => ∃ (z : Int) (w b : Nat) (bk : List Int), z = (j : Int) - 1 - w ∧ w ≤ j ∧ bk = c :: acc.reverse.take w ∧ b = w + 1 ∧ kk = j - w ∧
            s = ⟨[(6, .lst 2 n), (8, .lst 3 b), (9, .int .i64 z)], RH k last cs ++ [.lst 5 1 (A.ints .u8 acc), .lst 5 1 (A.ints .u8 bk)]⟩)
          [6, 8, 9] j ⟨z0, 0, 1, [c], by omega, by omega, rfl, rfl, rfl, rfl⟩ ?_
        rintro kk2 _ ⟨z, w, b, bk, hz, hwj, hbk, hb, hkk2, rfl⟩
        have hbl : bk.length = w + 1 := by rw [hbk, List.length_cons, List.length_take, List.length_reverse]; omega
        have e3 : A.bin .sub .i64 z 1 = z - 1 := by rw [subA' hA, wrap64 (by omega)]
        cbv
        (try simp only [ncast] at *)
        refine ifB_intro (fun h => ?_) (fun h => ?_)
        · have h5 := h
          (try simp only [natA hA, lssA hA, leqA hA, gtrA hA, geqA hA, eqlA hA, neqA hA, notA hA, beqA hA, decide_eq_true_eq, decide_eq_false_iff_not, beq_iff_eq, beq_eq_false_iff_ne, bne_iff_ne, bne_eq_false_iff_eq, Bool.not_eq_true', Bool.not_eq_false', ncast, Int.not_lt, Int.not_le, ne_eq, not_true_eq_false, not_false_eq_true, false_or, true_and] at h5)
          (try rw [h]); clear h
          cbv
          (try simp only [ncast] at *)
          refine rdA hA (by omega) (by omega) fun y hy => ?_
          have hy : y = acc.getD (j - 1 - w) 0 := by rw [hy]; congr 1; omega
          cbv
          (try simp only [ncast] at *)
          have haP := apdA1 hA .u8 bk y
          have ek : A.add b 1 = b + 1 := by subst hA; rfl
          have hbk2 : bk ++ [y] = c :: acc.reverse.take (w + 1) := by
            have hlt : w < acc.reverse.length := by rw [List.length_reverse]; omega
            have e : acc.reverse[w]'hlt = y := by
              rw [List.getElem_reverse, hy]
              simp only [hal, List.getD, List.getElem?_eq_getElem (show j - 1 - w < acc.length by omega), Option.getD_some]
            rw [hbk, List.take_add_one, List.getElem?_eq_getElem hlt, e]
            rfl
          refine ⟨?_, ?_, ?_⟩
          · subst hA
            show (R.ints .u8 bk).length = b * 1
            rw [R_ints_length]; omega
          · subst hA
            show (b + 1) * 1 ≤ room
            unfold room; omega
          simp only [e3, ek]
          subst hag
          refine ⟨j - (w + 1), ⟨[(6, .lst 2 n), (8, .lst 3 (b + 1)), (9, .int .i64 (z - 1))], RH k last cs ++ [.lst 5 1 (A.ints .u8 acc), .lst 5 1 (A.ints .u8 (bk ++ [y]))]⟩, by omega, ?_, z - 1, w + 1, b + 1, bk ++ [y], by omega, by omega, hbk2, by omega, rfl, rfl⟩
          subst hA
          unfold RH
          exact Sub_of [0, 1, 2, 5] (by simp [sigOk, ndG]) (by simp) (by repeat' (first | exact trivial | exact fun _ => rfl | exact fun h => absurd h (by simp) | exact subC_ints rfl | exact subC_ints (congrArg (fun l => some (Ck.lst _ _ l)) haP) | exact subC_rw rwR rfl | exact subC_rwv rwR rfl rfl | refine And.intro ?_ ?_ | rfl | (simp [subH_nil, hLts, hLt, renCk, renC, sg, Ck.cells, R_ints_ren, R_ints_hLts, haP]; done))) (by repeat' (first | exact trivial | exact .inr ⟨trivial, rfl⟩ | exact .inr ⟨by simp [vOk, hLt, hLts, haP], rfl⟩ | refine And.intro ?_ ?_))
        · have h5 := h
          (try simp only [natA hA, lssA hA, leqA hA, gtrA hA, geqA hA, eqlA hA, neqA hA, notA hA, beqA hA, decide_eq_true_eq, decide_eq_false_iff_not, beq_iff_eq, beq_eq_false_iff_ne, bne_iff_ne, bne_eq_false_iff_eq, Bool.not_eq_true', Bool.not_eq_false', ncast, Int.not_lt, Int.not_le, ne_eq, not_true_eq_false, not_false_eq_true, false_or, true_and] at h5)
          (try rw [h]); clear h
          cbv
          (try simp only [ncast] at *)
          have hwj2 : w = j := by omega
          have hT2 : xtxt rs (rs.length + 1) code = some bk := by
            rw [← hT, htx, hbk, hwj2, ← hal, ← List.length_reverse, List.take_length]
            rfl
          clear hbk htx
          subst hA hq
          refine Fin_of ⟨[(4, .lst 2 b), (5, .bool true)], RH k last cs ++ [.lst 5 1 (R.ints .u8 bk)]⟩ ?_ ⟨bk, true, b, .inl ⟨hT2, rfl⟩, by omega, rfl, rfl⟩
          unfold RH
          exact Sub_of [0, 1, 3] (by simp [sigOk, ndG]) (by simp) (by repeat' (first | exact trivial | exact fun _ => rfl | exact fun h => absurd h (by simp) | exact subC_ints rfl | exact subC_rw rwR rfl | exact subC_rwv rwR rfl rfl | refine And.intro ?_ ?_ | rfl | (simp [subH_nil, hLts, hLt, renCk, renC, sg, Ck.cells, R_ints_ren, R_ints_hLts]; done))) (by repeat' (first | exact trivial | exact .inr ⟨trivial, rfl⟩ | exact .inr ⟨by simp [vOk, hLt, hLts], rfl⟩ | refine And.intro ?_ ?_))
      · have h3 := h
        (try simp only [natA hA, lssA hA, leqA hA, gtrA hA, geqA hA, eqlA hA, neqA hA, notA hA, beqA hA, decide_eq_true_eq, decide_eq_false_iff_not, beq_iff_eq, beq_eq_false_iff_ne, bne_iff_ne, bne_eq_false_iff_eq, Bool.not_eq_true', Bool.not_eq_false', ncast, Int.not_lt, Int.not_le, ne_eq, not_true_eq_false, not_false_eq_true, false_or, true_and] at h3)
        (try rw [h]); clear h
        cbv
        (try simp only [ncast] at *)
        refine call_xat hC (h0 := 0) (h1 := 1) (rs := rs) (cs := cs) (k := k) (last := last) hk hl rwR hR rfl (cells_self (c := .vw cs) rfl rfl) fun a ha => ?_
        have hxa := ha.xat hR
        clear ha
        cbv
        (try simp only [ncast] at *)
        refine ifB_intro (fun h => ?_) (fun h => ?_)
        · have hneg := h
          (try simp only [natA hA, lssA hA, leqA hA, gtrA hA, geqA hA, eqlA hA, neqA hA, notA hA, beqA hA, decide_eq_true_eq, decide_eq_false_iff_not, beq_iff_eq, beq_eq_false_iff_ne, bne_iff_ne, bne_eq_false_iff_eq, Bool.not_eq_true', Bool.not_eq_false', ncast, Int.not_lt, Int.not_le, ne_eq, not_true_eq_false, not_false_eq_true, false_or, true_and] at hneg)
          (try rw [h]); clear h
          cbv
          (try simp only [ncast] at *)
          have hnone : xat rs c = none := by
            rcases hxa with ⟨_, h⟩ | ⟨q, _, h, _⟩
            · exact h
            · omega
          rw [hm, xtxt, if_neg (by omega), hnone] at htx
          rw [hT] at htx
          subst hA hq
          refine Fin_of ⟨[(4, .lst 2 0), (5, .bool false)], RH k last cs ++ [.lst 5 1 (R.ints .u8 [])]⟩ ((Sub_nilT (i := 4) 5 1 rfl).trans ?_) ⟨[], false, 0, .inr ⟨htx, rfl, rfl⟩, rfl, rfl, rfl⟩
          unfold RH
          exact Sub_of [0, 1, 3] (by simp [sigOk, ndG]) (by simp) (by repeat' (first | exact trivial | exact fun _ => rfl | exact fun h => absurd h (by simp) | exact subC_ints rfl | exact subC_rw rwR rfl | exact subC_rwv rwR rfl rfl | refine And.intro ?_ ?_ | rfl | (simp [subH_nil, hLts, hLt, renCk, renC, sg, Ck.cells, R_ints_ren, R_ints_hLts]; done))) (by repeat' (first | exact trivial | exact .inr ⟨trivial, rfl⟩ | exact .inr ⟨by simp [vOk, hLt, hLts], rfl⟩ | refine And.intro ?_ ?_))
        · have hpos := h
          (try simp only [natA hA, lssA hA, leqA hA, gtrA hA, geqA hA, eqlA hA, neqA hA, notA hA, beqA hA, decide_eq_true_eq, decide_eq_false_iff_not, beq_iff_eq, beq_eq_false_iff_ne, bne_iff_ne, bne_eq_false_iff_eq, Bool.not_eq_true', Bool.not_eq_false', ncast, Int.not_lt, Int.not_le, ne_eq, not_true_eq_false, not_false_eq_true, false_or, true_and] at hpos)
          (try rw [h]); clear h
          cbv
          (try simp only [ncast] at *)
          obtain ⟨q, hq1, hq2, hq3⟩ : ∃ q : Nat, q < rs.length ∧ a = (q : Int) ∧ xat rs c = some q := by
            rcases hxa with ⟨h, _⟩ | ⟨q, h1, h2, h3, _⟩
            · omega
            · exact ⟨q, h1, h2, h3⟩
          clear hxa
          have haq : a.toNat = q := by omega
          rw [hm, xtxt, if_neg (by omega), hq3] at htx
          clear hq3
          refine rwR.fld hA (m := 3) 2 rfl rfl ⟨by omega, by omega⟩ (by omega) fun y hy => ?_
          have hy : y = rend rs q := by rw [hy, haq]; rfl
          have hcf : cellF (.num .u8) y = .int .u8 y := rfl
          rw [hcf]
          clear hcf
          cbv
          (try simp only [ncast] at *)
          have haP := apdA1 hA .u8 acc y
          have ek : A.add n 1 = n + 1 := by subst hA; rfl
          refine ⟨?_, ?_, ?_⟩
          · subst hA
            show (R.ints .u8 acc).length = n * 1
            rw [R_ints_length]; omega
          · subst hA
            show (n + 1) * 1 ≤ room
            unfold room; omega
          cbv
          (try simp only [ncast] at *)
          refine rwR.fld hA (m := 3) 1 rfl rfl ⟨by omega, by omega⟩ (by omega) fun x hx => ?_
          have hx : x = rpar rs q := by rw [hx, haq]; rfl
          have hcf : cellF (.num .i64) x = .int .i64 x := rfl
          rw [hcf]
          clear hcf
          cbv
          (try simp only [ncast] at *)
          simp only [e2, ek]
          subst hag
          refine ⟨rs.length + 1 - (j + 1), ⟨[(0, .ptr 0 0), (1, .int .i64 x), (6, .lst 2 (n + 1)), (7, .int .i64 (i + 1))], RH k last cs ++ [.lst 5 1 (A.ints .u8 (acc ++ [y]))]⟩, by omega, ?_, i + 1, x, j + 1, n + 1, acc ++ [y], by omega, by omega, by simp; omega, by omega, ?_, rfl, rfl⟩
          · subst hA
            unfold RH
            exact Sub_of [0, 1, 4] (by simp [sigOk, ndG]) (by simp) (by repeat' (first | exact trivial | exact fun _ => rfl | exact fun h => absurd h (by simp) | exact subC_ints rfl | exact subC_ints (congrArg (fun l => some (Ck.lst _ _ l)) haP) | exact subC_rw rwR rfl | exact subC_rwv rwR rfl rfl | refine And.intro ?_ ?_ | rfl | (simp [subH_nil, hLts, hLt, renCk, renC, sg, Ck.cells, R_ints_ren, R_ints_hLts, haP]; done))) (by repeat' (first | exact trivial | exact .inr ⟨trivial, rfl⟩ | exact .inr ⟨by simp [vOk, hLt, hLts, haP], rfl⟩ | refine And.intro ?_ ?_))
          · rw [← hT, htx, ← hx, ← hy]
            cases xtxt rs (rs.length + 1 - (j + 1)) x with
            | none => rfl
            | some t => simp
    · have h2 := h
      (try simp only [natA hA, lssA hA, leqA hA, gtrA hA, geqA hA, eqlA hA, neqA hA, notA hA, beqA hA, decide_eq_true_eq, decide_eq_false_iff_not, beq_iff_eq, beq_eq_false_iff_ne, bne_iff_ne, bne_eq_false_iff_eq, Bool.not_eq_true', Bool.not_eq_false', ncast, Int.not_lt, Int.not_le, ne_eq, not_true_eq_false, not_false_eq_true, false_or, true_and] at h2)
      (try rw [h]); clear h
      cbv
      (try simp only [ncast] at *)
      refine call_xat hC (h0 := 0) (h1 := 1) (rs := rs) (cs := cs) (k := k) (last := last) hk hl rwR hR rfl (cells_self (c := .vw cs) rfl rfl) fun a ha => ?_
      have hxa := ha.xat hR
      clear ha
      cbv
      (try simp only [ncast] at *)
      refine ifB_intro (fun h => ?_) (fun h => ?_)
      · have hneg := h
        (try simp only [natA hA, lssA hA, leqA hA, gtrA hA, geqA hA, eqlA hA, neqA hA, notA hA, beqA hA, decide_eq_true_eq, decide_eq_false_iff_not, beq_iff_eq, beq_eq_false_iff_ne, bne_iff_ne, bne_eq_false_iff_eq, Bool.not_eq_true', Bool.not_eq_false', ncast, Int.not_lt, Int.not_le, ne_eq, not_true_eq_false, not_false_eq_true, false_or, true_and] at hneg)
        (try rw [h]); clear h
        cbv
        (try simp only [ncast] at *)
        have hnone : xat rs c = none := by
          rcases hxa with ⟨_, h⟩ | ⟨q, _, h, _⟩
          · exact h
          · omega
        rw [hm, xtxt, if_neg (by omega), hnone] at htx
        rw [hT] at htx
        subst hA hq
        refine Fin_of ⟨[(4, .lst 2 0), (5, .bool false)], RH k last cs ++ [.lst 5 1 (R.ints .u8 [])]⟩ ((Sub_nilT (i := 4) 5 1 rfl).trans ?_) ⟨[], false, 0, .inr ⟨htx, rfl, rfl⟩, rfl, rfl, rfl⟩
        unfold RH
        exact Sub_of [0, 1, 3] (by simp [sigOk, ndG]) (by simp) (by repeat' (first | exact trivial | exact fun _ => rfl | exact fun h => absurd h (by simp) | exact subC_ints rfl | exact subC_rw rwR rfl | exact subC_rwv rwR rfl rfl | refine And.intro ?_ ?_ | rfl | (simp [subH_nil, hLts, hLt, renCk, renC, sg, Ck.cells, R_ints_ren, R_ints_hLts]; done))) (by repeat' (first | exact trivial | exact .inr ⟨trivial, rfl⟩ | exact .inr ⟨by simp [vOk, hLt, hLts], rfl⟩ | refine And.intro ?_ ?_))
      · have hpos := h
        (try simp only [natA hA, lssA hA, leqA hA, gtrA hA, geqA hA, eqlA hA, neqA hA, notA hA, beqA hA, decide_eq_true_eq, decide_eq_false_iff_not, beq_iff_eq, beq_eq_false_iff_ne, bne_iff_ne, bne_eq_false_iff_eq, Bool.not_eq_true', Bool.not_eq_false', ncast, Int.not_lt, Int.not_le, ne_eq, not_true_eq_false, not_false_eq_true, false_or, true_and] at hpos)
        (try rw [h]); clear h
        cbv
        (try simp only [ncast] at *)
        obtain ⟨q, hq1, hq2, hq3⟩ : ∃ q : Nat, q < rs.length ∧ a = (q : Int) ∧ xat rs c = some q := by
          rcases hxa with ⟨h, _⟩ | ⟨q, h1, h2, h3, _⟩
          · omega
          · exact ⟨q, h1, h2, h3⟩
        clear hxa
        have haq : a.toNat = q := by omega
        rw [hm, xtxt, if_neg (by omega), hq3] at htx
        clear hq3
        refine rwR.fld hA (m := 3) 2 rfl rfl ⟨by omega, by omega⟩ (by omega) fun y hy => ?_
        have hy : y = rend rs q := by rw [hy, haq]; rfl
        have hcf : cellF (.num .u8) y = .int .u8 y := rfl
        rw [hcf]
        clear hcf
        cbv
        (try simp only [ncast] at *)
        have haP := apdA1 hA .u8 acc y
        have ek : A.add n 1 = n + 1 := by subst hA; rfl
        refine ⟨?_, ?_, ?_⟩
        · subst hA
          show (R.ints .u8 acc).length = n * 1
          rw [R_ints_length]; omega
        · subst hA
          show (n + 1) * 1 ≤ room
          unfold room; omega
        cbv
        (try simp only [ncast] at *)
        refine rwR.fld hA (m := 3) 1 rfl rfl ⟨by omega, by omega⟩ (by omega) fun x hx => ?_
        have hx : x = rpar rs q := by rw [hx, haq]; rfl
        have hcf : cellF (.num .i64) x = .int .i64 x := rfl
        rw [hcf]
        clear hcf
        cbv
        (try simp only [ncast] at *)
        simp only [e2, ek]
        subst hag
        refine ⟨rs.length + 1 - (j + 1), ⟨[(0, .ptr 0 0), (1, .int .i64 x), (6, .lst 2 (n + 1)), (7, .int .i64 (i + 1))], RH k last cs ++ [.lst 5 1 (A.ints .u8 (acc ++ [y]))]⟩, by omega, ?_, i + 1, x, j + 1, n + 1, acc ++ [y], by omega, by omega, by simp; omega, by omega, ?_, rfl, rfl⟩
        · subst hA
          unfold RH
          exact Sub_of [0, 1, 4] (by simp [sigOk, ndG]) (by simp) (by repeat' (first | exact trivial | exact fun _ => rfl | exact fun h => absurd h (by simp) | exact subC_ints rfl | exact subC_ints (congrArg (fun l => some (Ck.lst _ _ l)) haP) | exact subC_rw rwR rfl | exact subC_rwv rwR rfl rfl | refine And.intro ?_ ?_ | rfl | (simp [subH_nil, hLts, hLt, renCk, renC, sg, Ck.cells, R_ints_ren, R_ints_hLts, haP]; done))) (by repeat' (first | exact trivial | exact .inr ⟨trivial, rfl⟩ | exact .inr ⟨by simp [vOk, hLt, hLts, haP], rfl⟩ | refine And.intro ?_ ?_))
        · rw [← hT, htx, ← hx, ← hy]
          cases xtxt rs (rs.length + 1 - (j + 1)) x with
          | none => rfl
          | some t => simp
  · have h1 := h
    (try simp only [natA hA, lssA hA, leqA hA, gtrA hA, geqA hA, eqlA hA, neqA hA, notA hA, beqA hA, decide_eq_true_eq, decide_eq_false_iff_not, beq_iff_eq, beq_eq_false_iff_ne, bne_iff_ne, bne_eq_false_iff_eq, Bool.not_eq_true', Bool.not_eq_false', ncast, Int.not_lt, Int.not_le, ne_eq, not_true_eq_false, not_false_eq_true, false_or, true_and] at h1)
    (try rw [h]); clear h
    cbv
    (try simp only [ncast] at *)
    rw [show rs.length + 1 - j = 0 by omega] at htx
    rw [hT] at htx
    subst hA hq
    refine Fin_of ⟨[(4, .lst 2 0), (5, .bool false)], RH k last cs ++ [.lst 5 1 (R.ints .u8 [])]⟩ ((Sub_nilT (i := 4) 5 1 rfl).trans ?_) ⟨[], false, 0, .inr ⟨htx, rfl, rfl⟩, rfl, rfl, rfl⟩
    unfold RH
    exact Sub_of [0, 1, 3] (by simp [sigOk, ndG]) (by simp) (by repeat' (first | exact trivial | exact fun _ => rfl | exact fun h => absurd h (by simp) | exact subC_ints rfl | exact subC_rw rwR rfl | exact subC_rwv rwR rfl rfl | refine And.intro ?_ ?_ | rfl | (simp [subH_nil, hLts, hLt, renCk, renC, sg, Ck.cells, R_ints_ren, R_ints_hLts]; done))) (by repeat' (first | exact trivial | exact .inr ⟨trivial, rfl⟩ | exact .inr ⟨by simp [vOk, hLt, hLts], rfl⟩ | refine And.intro ?_ ?_))
end Go.Sx
