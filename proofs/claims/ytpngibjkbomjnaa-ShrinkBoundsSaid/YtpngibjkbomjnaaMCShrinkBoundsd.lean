/- Contracts of functions, and what is plain about them: texts put together. -/
import Derived.Test.YtpngibjkbomjnaaMSc
import Derived.Laws.BitsLemmas
/- Bytes as one number, the lowest first. -/
set_option linter.unusedVariables false
namespace Go.Sx

/-- A row of bytes. -/
def Byt (xs : List Int) : Prop := ∀ x ∈ xs, 0 ≤ x ∧ x < 256

def V : List Int → Int
  | [] => 0
  | x :: r => x + 256 * V r

theorem pow_pos2 (n : Nat) : (0 : Int) < 2 ^ n := Int.pow_pos (by decide)

theorem V_app : ∀ (xs ys : List Int), V (xs ++ ys) = V xs + 2 ^ (8 * xs.length) * V ys
  | [], ys => by simp [V]
  | x :: r, ys => by
    have : (2 : Int) ^ (8 * (r.length + 1)) = 256 * 2 ^ (8 * r.length) := by
      rw [show 8 * (r.length + 1) = 8 + 8 * r.length by omega, Int.pow_add]; rfl
    simp only [List.cons_append, V, List.length_cons, this, V_app r ys]
    rw [Int.mul_add, Int.mul_assoc]; omega

theorem V_bnd : ∀ {xs : List Int}, Byt xs → 0 ≤ V xs ∧ V xs < 2 ^ (8 * xs.length)
  | [], _ => by simp [V]
  | x :: r, h => by
    obtain ⟨h1, h2⟩ := V_bnd (xs := r) fun y hy => h y (List.mem_cons_of_mem _ hy)
    obtain ⟨h3, h4⟩ := h x (List.mem_cons_self ..)
    have : (2 : Int) ^ (8 * (r.length + 1)) = 256 * 2 ^ (8 * r.length) := by
      rw [show 8 * (r.length + 1) = 8 + 8 * r.length by omega, Int.pow_add]; rfl
    simp only [V, List.length_cons, this]
    omega

theorem Byt.take {xs : List Int} (h : Byt xs) (n : Nat) : Byt (xs.take n) := fun x hx => h x (List.mem_of_mem_take hx)
theorem Byt.drop {xs : List Int} (h : Byt xs) (n : Nat) : Byt (xs.drop n) := fun x hx => h x (List.mem_of_mem_drop hx)
theorem Byt.get {xs : List Int} (h : Byt xs) {i : Nat} (hi : i < xs.length) : 0 ≤ xs.getD i 0 ∧ xs.getD i 0 < 256 := by
  have : xs.getD i 0 = xs[i] := by simp [List.getD, hi]
  rw [this]; exact h _ (List.getElem_mem hi)

theorem V_take_succ {xs : List Int} {i : Nat} (hi : i < xs.length) : V (xs.take (i + 1)) = V (xs.take i) + 2 ^ (8 * i) * xs.getD i 0 := by
  have e : xs.take (i + 1) = xs.take i ++ [xs.getD i 0] := by
    rw [List.take_add_one]; simp [List.getD, hi]
  rw [e, V_app]
  simp only [V, List.length_take, Nat.min_eq_left (Nat.le_of_lt hi), Int.mul_zero, Int.add_zero]

theorem V_take {xs : List Int} (h : Byt xs) {i : Nat} (hi : i ≤ xs.length) : V xs % 2 ^ (8 * i) = V (xs.take i) := by
  have e : V xs = V (xs.take i) + 2 ^ (8 * i) * V (xs.drop i) := by
    conv => lhs; rw [← List.take_append_drop i xs]
    rw [V_app, List.length_take, Nat.min_eq_left hi]
  have hb := V_bnd (h.take i)
  rw [List.length_take, Nat.min_eq_left hi] at hb
  rw [e, Int.add_mul_emod_self_left, Int.emod_eq_of_lt hb.1 hb.2]

/-- A number's bits from a place on, some of them. -/
def cut (v : Int) (p n : Nat) : Int := v / 2 ^ p % 2 ^ n

theorem cut_nonneg {v : Int} (h : 0 ≤ v) (p n : Nat) : 0 ≤ cut v p n := Int.emod_nonneg _ (Int.ne_of_gt (pow_pos2 n))
theorem cut_lt (v : Int) (p n : Nat) : cut v p n < 2 ^ n := Int.emod_lt_of_pos _ (pow_pos2 n)

theorem div_mod_pow (v : Int) (p q : Nat) : v % 2 ^ (p + q) / 2 ^ p = cut v p q := by
  unfold cut
  have hp := pow_pos2 p
  have hq := pow_pos2 q
  rw [Int.pow_add]
  -- v = v % (P*Q) + P*Q*k
  have e1 : v = v % (2 ^ p * 2 ^ q) + 2 ^ p * 2 ^ q * (v / (2 ^ p * 2 ^ q)) := (Int.emod_add_mul_ediv v _).symm
  have hr0 : 0 ≤ v % (2 ^ p * 2 ^ q) := Int.emod_nonneg _ (Int.ne_of_gt (Int.mul_pos hp hq))
  have hr1 : v % (2 ^ p * 2 ^ q) < 2 ^ p * 2 ^ q := Int.emod_lt_of_pos _ (Int.mul_pos hp hq)
  have e2 : v / 2 ^ p = v % (2 ^ p * 2 ^ q) / 2 ^ p + 2 ^ q * (v / (2 ^ p * 2 ^ q)) := by
    conv => lhs; rw [e1]
    rw [Int.mul_assoc, Int.add_mul_ediv_left _ _ (Int.ne_of_gt hp)]
  rw [e2, Int.add_mul_emod_self_left, Int.emod_eq_of_lt (Int.ediv_nonneg hr0 (Int.le_of_lt hp)) (Int.ediv_lt_of_lt_mul hp (by rw [Int.mul_comm (2 ^ q)]; exact hr1))]

/-- The bits that the reader has in hand. -/
theorem hold_eq {xs : List Int} (h : Byt xs) {a b p : Nat} (ha : a ≤ xs.length) (e : 8 * a = p + b) : V (xs.take a) / 2 ^ p = cut (V xs) p b := by
  rw [← V_take h ha, e, div_mod_pow]

theorem cut_succ {xs : List Int} (h : Byt xs) {a b p : Nat} (ha : a < xs.length) (e : 8 * a = p + b) : cut (V xs) p (b + 8) = cut (V xs) p b + 2 ^ b * xs.getD a 0 := by
  rw [← hold_eq h (Nat.succ_le_of_lt ha) (p := p) (b := b + 8) (by omega), ← hold_eq h (Nat.le_of_lt ha) e, V_take_succ ha, e, Int.pow_add, Int.mul_assoc, Int.add_mul_ediv_left _ _ (Int.ne_of_gt (pow_pos2 p))]

theorem cut_cut (v : Int) (p b n : Nat) (hn : n ≤ b) : cut v p b % 2 ^ n = cut v p n := by
  unfold cut
  obtain ⟨k, rfl⟩ : ∃ k, b = n + k := ⟨b - n, by omega⟩
  rw [Int.pow_add, Int.emod_emod_of_dvd _ ⟨_, rfl⟩]
theorem cut_drop (v : Int) (p b n : Nat) (hn : n ≤ b) : cut v p b / 2 ^ n = cut v (p + n) (b - n) := by
  obtain ⟨k, rfl⟩ : ∃ k, b = n + k := ⟨b - n, by omega⟩
  rw [Nat.add_sub_cancel_left]
  have : cut v p (n + k) = v / 2 ^ p % 2 ^ (n + k) := rfl
  rw [this, div_mod_pow]
  unfold cut
  rw [Int.pow_add, Int.ediv_ediv_of_nonneg (Int.le_of_lt (pow_pos2 p))]

end Go.Sx

/- The reader: contracts of its inner functions. -/
set_option maxRecDepth 100000
set_option maxHeartbeats 4000000
set_option linter.unusedVariables false
namespace Go.Sx
open Go.Proofs.Try

theorem wrap64 {n : Int} (h : -9223372036854775808 ≤ n ∧ n ≤ 9223372036854775807) : IntKind.i64.wrap n = n := by rw [Go.IntKind.wrap_i64]; omega
theorem wrapu64 {n : Int} (h : 0 ≤ n ∧ n < 18446744073709551616) : IntKind.u64.wrap n = n := by rw [Go.IntKind.wrap_u64]; omega
theorem wrapu32 {n : Int} (h : 0 ≤ n ∧ n < 4294967296) : IntKind.u32.wrap n = n := by rw [Go.IntKind.wrap_u32]; omega

theorem wu64 : ∀ n : Int, 0 ≤ n → n < 2 ^ 64 → IntKind.u64.wrap n = n := fun n h0 h1 => wrapu64 ⟨h0, h1⟩

theorem shl64 {a : Int} {n : Nat} (hn : n ≤ 64) (h0 : 0 ≤ a) (h1 : a * 2 ^ n < 18446744073709551616) : shlI .u64 a n = a * 2 ^ n := by
  unfold shlI
  rw [show min (n : Int).toNat IntKind.u64.bits = n by show min n 64 = n; omega]
  exact wrapu64 ⟨Int.mul_nonneg h0 (Int.le_of_lt (pow_pos2 n)), h1⟩
theorem shr64 {a : Int} {n : Nat} (hn : n ≤ 64) : shrI .u64 a n = a / 2 ^ n := by
  unfold shrI
  rw [show min (n : Int).toNat IntKind.u64.bits = n by show min n 64 = n; omega]
  exact Int.fdiv_eq_ediv_of_nonneg _ (Int.le_of_lt (pow_pos2 n))
theorem mask64 {a : Int} {n : Nat} (hn : n ≤ 63) (h0 : 0 ≤ a) (h1 : a < 18446744073709551616) : band .u64 a (IntKind.u64.wrap (shlI .u64 1 n - 1)) = a % 2 ^ n := by
  have hp := pow_pos2 n
  have hq : (2 : Int) ^ n ≤ 2 ^ 63 := by exact_mod_cast Nat.pow_le_pow_right (by decide) hn
  rw [shl64 (by omega) (by decide) (by omega), Int.one_mul, wrapu64 (by omega)]
  exact bits_mask .u64 64 (Nat.le_refl _) wu64 n (by omega) a h0 h1
theorem or64 {a b : Int} {n : Nat} (h0 : 0 ≤ a) (h1 : a < 2 ^ n) (h2 : 0 ≤ b) (h3 : a + b * 2 ^ n < 18446744073709551616) : bor .u64 a (b * 2 ^ n) = a + b * 2 ^ n := by
  have hp := pow_pos2 n
  have hb := Int.mul_nonneg h2 (Int.le_of_lt hp)
  have e : bor .u64 a (b * 2 ^ n) = bor .u64 (b * 2 ^ n) a := by
    unfold bor; rw [BitVec.or_comm]
  rw [e, Int.add_comm]
  exact bits_join .u64 64 (Nat.le_refl _) wu64 n _ _ hb (Int.mul_emod_left _ _) (by show _ < (18446744073709551616 : Int); omega) h0 h1 (by show _ < (18446744073709551616 : Int); omega)

/-- A reader's state: p bits are read, the next a bytes less b bits. -/
def RF (xs : List Int) (p a b : Nat) (at_ hold nb : Int) : Prop :=
  at_ = a ∧ nb = b ∧ 8 * a = p + b ∧ a ≤ xs.length ∧ b ≤ 39 ∧ hold = cut (V xs) p b

/-- A row that is a reader's. -/
def RX (xs : List Int) (m : Nat) : Prop := Byt xs ∧ m = xs.length ∧ xs.length ≤ 1000000000000

theorem s_right (n : Int) : Spec prog 60 [.int .i64 n] [] (fun r H => r = .bool (decide (0 ≤ n) && decide (n ≤ 32)) ∧ H = []) := by
  refine Spec_of_xX (D := fun _ => (0, [])) (ks := [0, 2]) tok mixed (fn := f60) rfl rfl rfl (by kernel_rfl) (N := 9) rfl (rs := [.tmp 2]) rfl (by show 1 ≤ 9; omega) fun A C ag L q hA hC hag hL hq => ?_
  cbv
  refine ifB_intro (fun h => ?_) (fun h => ?_)
  · rw [h]
    cbv
    subst hA hq
    have h : 0 ≤ n := of_decide_eq_true h
    exact ⟨by simp [h]; rfl, rfl⟩
  · rw [h]
    cbv
    subst hA hq
    have h : ¬ 0 ≤ n := of_decide_eq_false h
    exact ⟨by simp [h], rfl⟩

theorem s_err (m : Nat) (at_ hold nb er : Int) : Spec prog 40 [.ptr 0 0] [.vw [.lst 1 m, .int .i64 at_, .int .u64 hold, .int .i64 nb, .int .i64 er, .bool true], .vw []]
    (fun r H => r = .int .i64 er ∧ H = [.vw [.lst 1 m, .int .i64 at_, .int .u64 hold, .int .i64 nb, .int .i64 er, .bool true], .vw []]) := by
  refine Spec_of_xX (D := fun _ => (0, [])) (ks := [0, 2]) tok mixed (fn := f40) rfl rfl rfl (by kernel_rfl) (N := 16) rfl (rs := [.tmp 2]) rfl (by show 1 ≤ 16; omega) fun A C ag L q hA hC hag hL hq => ?_
  cbv
  refine ifB_intro (fun h => ?_) (fun h => ?_)
  · subst hA; exact absurd h (by decide)
  · cbv
    subst hq
    exact ⟨rfl, rfl⟩

theorem s_drop (m : Nat) (xs : List Int) (at_ hold nb er k : Int) (hk : 0 ≤ k) : Spec prog 62 [.ptr 0 0, .int .i64 k] [.box 76 [.lst 1 m, .int .i64 at_, .int .u64 hold, .int .i64 nb, .int .i64 er, .bool true], .lst 5 1 (R.ints .u8 xs)]
    (fun r H => r = .tup [] ∧ H = [.box 76 [.lst 1 m, .int .i64 at_, .int .u64 (shrI .u64 hold k), .int .i64 (IntKind.i64.wrap (nb - k)), .int .i64 er, .bool true], .lst 5 1 (R.ints .u8 xs)]) := by
  refine Spec_of_xX (D := fun _ => (0, [])) (ks := [0, 1]) tok mixed (fn := f62) rfl rfl rfl (by kernel_rfl) (N := 20) rfl (rs := []) rfl (by show 2 ≤ 20; omega) fun A C ag L q hA hC hag hL hq => ?_
  rw [← hA]
  cbv
  subst hA hq
  exact ⟨hk, rfl, rfl⟩

theorem s_fill (xs : List Int) (m p a b : Nat) (hx : RX xs m) (at_ hold nb er n : Int) (hn : n ≤ 32) (hF : RF xs p a b at_ hold nb) :
    Spec prog 61 [.ptr 0 0, .int .i64 n] [.box 76 [.lst 1 m, .int .i64 at_, .int .u64 hold, .int .i64 nb, .int .i64 er, .bool true], .lst 5 1 (R.ints .u8 xs)]
      (fun r H => r = .tup [] ∧ ∃ (a b : Nat) (at_ hold nb : Int), RF xs p a b at_ hold nb ∧ (n ≤ nb ∨ a = xs.length) ∧ H = [.box 76 [.lst 1 m, .int .i64 at_, .int .u64 hold, .int .i64 nb, .int .i64 er, .bool true], .lst 5 1 (R.ints .u8 xs)]) := by
  refine Spec_of_xX (D := fun i => if i = 0 then (16, []) else (20, [])) (ks := [0, 1]) tok mixed (fn := f61) rfl rfl rfl (by kernel_rfl) (N := 59) rfl (rs := []) rfl (by show 2 ≤ 59; omega) fun A C ag L q hA hC hag hL hq => ?_
  rw [← hA]
  cbv
  rw [hL]
  refine loop_keep (fun k s => ∃ (a b : Nat) (at_ hold nb : Int), RF xs p a b at_ hold nb ∧ k = xs.length - a ∧ s = ⟨[(0, .ptr 0 0), (1, .int .i64 n)], [.box 76 [.lst 1 m, .int .i64 at_, .int .u64 hold, .int .i64 nb, .int .i64 er, .bool true], .lst 5 1 (A.ints .u8 xs)]⟩) [0, 1] _ ⟨a, b, at_, hold, nb, hF, rfl, rfl⟩ ?_
  rintro k _ ⟨a, b, at_, hold, nb, hF, hk, rfl⟩
  cbv
  refine ifB_intro (fun h => ?_) (fun h => ?_)
  · rw [h]
    cbv
    refine ifB_intro (fun h' => ?_) (fun h' => ?_)
    · rw [h']
      cbv
      have hlt : 0 + at_.toNat < xs.length ∧ A.inr at_ m ∧ at_.toNat = a := by
        obtain ⟨h1, -, -, h4, -⟩ := hF
        obtain ⟨-, hm, -⟩ := hx
        subst hA
        have h' : at_ < (m : Int) := of_decide_eq_true h'
        refine ⟨by omega, ⟨by omega, h'⟩, by omega⟩
      obtain ⟨y, hy, hy2⟩ := nthA_ex hA .u8 hlt.1
      refine ⟨hlt.2.1, bindO_some hy ?_⟩
      cbv
      refine ⟨?_, ?_⟩
      · subst hA
        show 0 ≤ nb
        have := hF.2.1; omega
      subst hA hag
      rw [hlt.2.2, Nat.zero_add] at hy2
      refine again_keep [0, 1] (xs.length - (a + 1)) ?_ ⟨a + 1, b + 8, _, _, _, ?_, rfl, rfl⟩
      · have := hlt.1; omega
      obtain ⟨h1, h2, h3, h4, h5, h6⟩ := hF
      obtain ⟨hb, hm, hl⟩ := hx
      have hlt' : a < xs.length := by omega
      have h : nb < n := of_decide_eq_true h
      have hyb := hb.get hlt'
      rw [← hy2] at hyb
      have hc0 := cut_nonneg (V_bnd hb).1 p b
      have hc1 := cut_lt (V xs) p b
      have hq : (2 : Int) ^ b ≤ 2 ^ 39 := by exact_mod_cast Nat.pow_le_pow_right (by decide) h5
      have hp := pow_pos2 b
      have hq39 : (2 : Int) ^ 39 = 549755813888 := by decide
      have hyp : y * 2 ^ b ≤ 255 * 549755813888 := Int.mul_le_mul (by omega) (by omega) (by omega) (by omega)
      refine ⟨?_, ?_, by omega, by omega, by omega, ?_⟩
      · show IntKind.i64.wrap (at_ + 1) = _
        rw [wrap64 (by omega)]; omega
      · show IntKind.i64.wrap (nb + 8) = _
        rw [wrap64 (by omega)]; omega
      · show bor .u64 hold (shlI .u64 (IntKind.u64.wrap y) nb) = _
        rw [wrapu64 (by omega), h2, shl64 (by omega) (by omega) (by omega), h6, or64 hc0 hc1 (by omega) (by omega), cut_succ hb hlt' h3, hy2, Int.mul_comm]
    · rw [h']
      cbv
      subst hA hq
      refine ⟨rfl, a, b, at_, hold, nb, hF, .inr ?_, rfl⟩
      have h' : ¬ at_ < (m : Int) := of_decide_eq_false h'
      obtain ⟨h1, h2, h3, h4, h5, h6⟩ := hF
      obtain ⟨-, hm, -⟩ := hx
      omega
  · rw [h]
    cbv
    subst hA hq
    have h : ¬ nb < n := of_decide_eq_false h
    exact ⟨rfl, a, b, at_, hold, nb, hF, .inl (by omega), rfl⟩
end Go.Sx

/- lzw: a table, new. -/
set_option maxRecDepth 100000
set_option maxHeartbeats 4000000
set_option linter.unusedVariables false
set_option linter.unusedSimpArgs false
namespace Go.Sx
open Go.Proofs.Try

theorem row_num {A : Ar} (hA : A = R) {n : Int} {k : IntKind} : A.row n [.int k 0] = A.ints k (List.replicate n.toNat 0) := by
  subst hA
  show zrow n.toNat [.int k 0] = ints k _
  rw [zrow_one]
  simp [ints, SV.of]

theorem getD_rep {n q : Nat} (v : Int) {d : Int} (h : q < n) : (List.replicate n v).getD q d = v := by
  rw [List.getD, List.getElem?_replicate, if_pos h]
  rfl
/-- A table's chunks: parents, ends, the children, the last one, how many. -/
def TbH (A : Ar) (ps es : List Int) (m : List Int → Option Int) (last used : Int) : List Ck :=
  [.box 79 [.lst 1 8192, .lst 2 8192, .mapv 3, .int .i64 last, .int .i64 used], .lst 3 1 (A.ints .i64 ps), .lst 5 1 (A.ints .u8 es), .mp [.i64, .u8] m]

theorem keyL : KeyOk prog 98 [.i64, .u8] := keyOk_struct (by kernel_rfl) (by kernel_rfl) (by kernel_rfl)

theorem mapL : prog.underlying 77 = some (.map 98 3) := by kernel_rfl

theorem s_znew : Spec prog 21 [] [] (fun r H => r = .ptr 0 0 ∧ H = TbH R (List.replicate 8192 (-1)) (List.replicate 8192 0) (fun _ => none) 256 0) := by
  refine Spec_of_kF (D := fun i => if i = 1 then (6, [1000001,1000002,1001002]) else (0, [])) (ks := [0, 1, 2, 12, 13]) tok mixed (fn := f21) rfl rfl rfl (by kernel_rfl) (N := 24) rfl (rs := [.tmp 0]) rfl (Nat.le_of_ble_eq_true rfl) fun A C Kp E ag L q hA hC hK hE hag hL hq => ?_
  cbv
  refine ⟨⟨[[0,1,2,3,4,5],[0,2,1,3,4,5],[2,0,1,3,4,5],[1,0,2,3,4,5],[1,2,0,3,4,5],[2,1,0,3,4,5]], by kernel_rfl, fun F hF => ?_⟩⟩
  obtain ⟨z8, hz8⟩ : ∃ z8 : List Int, z8 = List.replicate 8192 0 := ⟨_, rfl⟩
  have h3 : F ⟨[(0, .nilP), (1, .ptr 0 0)], [.box 79 [.lst 1 8192, .lst 2 8192, .mapv 3, .int .i64 256, .int .i64 0], .lst 3 1 (A.ints .i64 z8), .lst 5 1 (A.ints .u8 z8), .mp [.i64, .u8] fun _ => none]⟩ := by
    refine hF _ ?_
    clear hF
    cbv
    rw [hL]
    have hz8l : z8.length = 8192 := by rw [hz8, List.length_replicate]
    refine loop_keep (fun kk s => ∃ (i : Int) (j : Nat) (ps : List Int), i = (j : Int) ∧ j ≤ 8192 ∧ ps.length = 8192 ∧ (∀ q, q < 8192 → ps.getD q 0 = if q < j then -1 else 0) ∧ kk = 8192 - j ∧ s = ⟨[(1, .ptr 0 0), (12, .int .i64 (A.nat 8192)), (13, .int .i64 i)], [.box 79 [.lst 1 8192, .lst 2 8192, .mapv 3, .int .i64 256, .int .i64 0], .lst 3 1 (A.ints .i64 ps), .lst 5 1 (A.ints .u8 z8), .mp [.i64, .u8] fun _ => none]⟩)
      [1, 12, 13] 8192 ⟨0, 0, z8, rfl, by omega, hz8l, fun p hp => by rw [hz8, if_neg (by omega), getD_rep _ hp], rfl, rfl⟩ ?_
    rintro kk _ ⟨i, j, ps, hi, hj, hpl, hps, hkk, rfl⟩
    cbv
    (try simp only [ncast] at *)
    refine ifB_intro (fun h => ?_) (fun h => ?_)
    · have hlt := h
      (try simp only [natA hA, lssA hA, leqA hA, gtrA hA, geqA hA, eqlA hA, neqA hA, notA hA, beqA hA, decide_eq_true_eq, decide_eq_false_iff_not, beq_iff_eq, beq_eq_false_iff_ne, bne_iff_ne, bne_eq_false_iff_eq, Bool.not_eq_true', Bool.not_eq_false', ncast, Int.not_lt, Int.not_le, ne_eq, not_true_eq_false, not_false_eq_true, false_or, true_and] at hlt)
      (try rw [h]); clear h
      cbv
      (try simp only [ncast] at *)
      refine wrA hA (by (first | omega | (try simp only [natA hA, lssA hA, leqA hA, gtrA hA, geqA hA, eqlA hA, neqA hA, notA hA, beqA hA, decide_eq_true_eq, decide_eq_false_iff_not, beq_iff_eq, beq_eq_false_iff_ne, bne_iff_ne, bne_eq_false_iff_eq, Bool.not_eq_true', Bool.not_eq_false', ncast, Int.not_lt, Int.not_le, ne_eq, not_true_eq_false, not_false_eq_true, false_or, true_and, addA hA, subA' hA, inrA hA, ge0A hA, ne0A hA, leIA hA, ixA hA, cntA hA, addNA hA, tnA hA, posA hA, Go.IntKind.wrap_i64] at *) <;> omega | (try simp only [decide_eq_true_eq, decide_eq_false_iff_not, beq_iff_eq, beq_eq_false_iff_ne, bne_iff_ne, bne_eq_false_iff_eq, Bool.not_eq_true', Bool.not_eq_false', ncast, Int.not_lt, Int.not_le, ne_eq, not_true_eq_false, not_false_eq_true, false_or, true_and, Go.IntKind.wrap_i64] at *) <;> omega)) (by (first | omega | (try simp only [natA hA, lssA hA, leqA hA, gtrA hA, geqA hA, eqlA hA, neqA hA, notA hA, beqA hA, decide_eq_true_eq, decide_eq_false_iff_not, beq_iff_eq, beq_eq_false_iff_ne, bne_iff_ne, bne_eq_false_iff_eq, Bool.not_eq_true', Bool.not_eq_false', ncast, Int.not_lt, Int.not_le, ne_eq, not_true_eq_false, not_false_eq_true, false_or, true_and, addA hA, subA' hA, inrA hA, ge0A hA, ne0A hA, leIA hA, ixA hA, cntA hA, addNA hA, tnA hA, posA hA, Go.IntKind.wrap_i64] at *) <;> omega | (try simp only [decide_eq_true_eq, decide_eq_false_iff_not, beq_iff_eq, beq_eq_false_iff_ne, bne_iff_ne, bne_eq_false_iff_eq, Bool.not_eq_true', Bool.not_eq_false', ncast, Int.not_lt, Int.not_le, ne_eq, not_true_eq_false, not_false_eq_true, false_or, true_and, Go.IntKind.wrap_i64] at *) <;> omega)) fun ys hys => ?_
      cbv
      (try simp only [ncast] at *)
      have e : A.bin .add .i64 i 1 = i + 1 := by rw [addA hA, wrap64 (by omega)]
      simp only [e]
      subst hag
      refine ⟨8192 - (j + 1), ⟨[(1, .ptr 0 0), (12, .int .i64 (A.nat 8192)), (13, .int .i64 (i + 1))], [.box 79 [.lst 1 8192, .lst 2 8192, .mapv 3, .int .i64 256, .int .i64 0], .lst 3 1 (A.ints .i64 ys), .lst 5 1 (A.ints .u8 z8), .mp [.i64, .u8] fun _ => none]⟩, by omega, ?_, i + 1, j + 1, ys, by omega, by omega, by rw [hys, List.length_set]; exact hpl, fun p hp => ?_, rfl, rfl⟩
      · subst hA
        exact Sub_of [0, 1, 2, 3] (by simp [sigOk, ndG]) (by simp) (by repeat' (first | exact trivial | exact fun _ => rfl | exact fun h => absurd h (by simp) | exact subC_ints rfl | refine And.intro ?_ ?_ | rfl | (simp [subH_nil, hLts, hLt, renCk, renC, sg, Ck.cells, R_ints_ren, R_ints_hLts]; done))) (by repeat' (first | exact trivial | exact .inr ⟨trivial, rfl⟩ | exact .inr ⟨by simp [vOk, hLt, hLts], rfl⟩ | refine And.intro ?_ ?_))
      · rw [hys, show 0 + i.toNat = j by omega]
        simp only [List.getD, List.getElem?_set]
        by_cases hqj : j = p
        · subst hqj
          rw [if_pos rfl, if_pos (by omega), if_pos (by omega)]
          rfl
        · rw [if_neg hqj]
          have := hps p hp
          simp only [List.getD] at this
          rw [this]
          split <;> split <;> omega
    · have hge := h
      (try simp only [natA hA, lssA hA, leqA hA, gtrA hA, geqA hA, eqlA hA, neqA hA, notA hA, beqA hA, decide_eq_true_eq, decide_eq_false_iff_not, beq_iff_eq, beq_eq_false_iff_ne, bne_iff_ne, bne_eq_false_iff_eq, Bool.not_eq_true', Bool.not_eq_false', ncast, Int.not_lt, Int.not_le, ne_eq, not_true_eq_false, not_false_eq_true, false_or, true_and] at hge)
      (try rw [h]); clear h
      cbv
      (try simp only [ncast] at *)
      have hpe : ps = List.replicate 8192 (-1) := by
        refine List.ext_getElem (by rw [List.length_replicate]; exact hpl) fun p h1 h2 => ?_
        have := hps p (by omega)
        rw [if_pos (by omega)] at this
        simp only [List.getD, List.getElem?_eq_getElem h1, Option.getD_some] at this
        rw [this, List.getElem_replicate]
      subst hA hq
      refine Fin_of ⟨[(0, .ptr 0 0)], TbH R ps z8 (fun _ => none) 256 0⟩ ?_ ⟨rfl, by rw [hpe, hz8]⟩
      unfold TbH
      exact Sub_of [0, 1, 2, 3] (by simp [sigOk, ndG]) (by simp) (by repeat' (first | exact trivial | exact fun _ => rfl | exact fun h => absurd h (by simp) | exact subC_ints rfl | refine And.intro ?_ ?_ | rfl | (simp [subH_nil, hLts, hLt, renCk, renC, sg, Ck.cells, R_ints_ren, R_ints_hLts]; done))) (by repeat' (first | exact trivial | exact .inr ⟨trivial, rfl⟩ | exact .inr ⟨by simp [vOk, hLt, hLts], rfl⟩ | refine And.intro ?_ ?_))
  clear hF
  cbv
  have hr1 : A.row 8192 [.int .i64 0] = A.ints .i64 z8 := by rw [hz8]; exact row_num hA
  have hr2 : A.row 8192 [.int .u8 0] = A.ints .u8 z8 := by rw [hz8]; exact row_num hA
  have ht : A.tn 8192 = 8192 := by rw [tnA hA]; rfl
  have hm1 : A.mks 8 8192 8192 := by rw [mksA hA]; omega
  have hm2 : A.mks 1 8192 8192 := by rw [mksA hA]; omega
  simp only [hr1, hr2, ht, hm1, hm2, true_and]
  refine ⟨?_, ?_, ?_, ?_, ?_, ?_, trivial⟩
  · refine hk_mmake hE _ [.i64, .u8] rfl ?_
    cbv
    (try simp only [hr1, hr2, ht, hm1, hm2, true_and])
    subst hA hag
    refine ⟨0, _, by omega, ?_, h3⟩
    exact Sub_of [3,0,1,2] (by simp [sigOk, ndG]) (by simp) (by repeat' (first | exact trivial | exact fun _ => rfl | exact fun h => absurd h (by simp) | exact subC_ints rfl | refine And.intro ?_ ?_ | rfl | (simp [subH_nil, hLts, hLt, renCk, renC, sg, Ck.cells, R_ints_ren, R_ints_hLts]; done))) (by repeat' (first | exact trivial | exact .inr ⟨trivial, rfl⟩ | exact .inr ⟨by simp [vOk, hLt, hLts], rfl⟩ | refine And.intro ?_ ?_))
  · refine hk_mmake hE _ [.i64, .u8] rfl ?_
    cbv
    (try simp only [hr1, hr2, ht, hm1, hm2, true_and])
    subst hA hag
    refine ⟨0, _, by omega, ?_, h3⟩
    exact Sub_of [3,0,2,1] (by simp [sigOk, ndG]) (by simp) (by repeat' (first | exact trivial | exact fun _ => rfl | exact fun h => absurd h (by simp) | exact subC_ints rfl | refine And.intro ?_ ?_ | rfl | (simp [subH_nil, hLts, hLt, renCk, renC, sg, Ck.cells, R_ints_ren, R_ints_hLts]; done))) (by repeat' (first | exact trivial | exact .inr ⟨trivial, rfl⟩ | exact .inr ⟨by simp [vOk, hLt, hLts], rfl⟩ | refine And.intro ?_ ?_))
  · refine hk_mmake hE _ [.i64, .u8] rfl ?_
    cbv
    (try simp only [hr1, hr2, ht, hm1, hm2, true_and])
    subst hA hag
    refine ⟨0, _, by omega, ?_, h3⟩
    exact Sub_of [3,1,2,0] (by simp [sigOk, ndG]) (by simp) (by repeat' (first | exact trivial | exact fun _ => rfl | exact fun h => absurd h (by simp) | exact subC_ints rfl | refine And.intro ?_ ?_ | rfl | (simp [subH_nil, hLts, hLt, renCk, renC, sg, Ck.cells, R_ints_ren, R_ints_hLts]; done))) (by repeat' (first | exact trivial | exact .inr ⟨trivial, rfl⟩ | exact .inr ⟨by simp [vOk, hLt, hLts], rfl⟩ | refine And.intro ?_ ?_))
  · refine hk_mmake hE _ [.i64, .u8] rfl ?_
    cbv
    (try simp only [hr1, hr2, ht, hm1, hm2, true_and])
    subst hA hag
    refine ⟨0, _, by omega, ?_, h3⟩
    exact Sub_of [3,1,0,2] (by simp [sigOk, ndG]) (by simp) (by repeat' (first | exact trivial | exact fun _ => rfl | exact fun h => absurd h (by simp) | exact subC_ints rfl | refine And.intro ?_ ?_ | rfl | (simp [subH_nil, hLts, hLt, renCk, renC, sg, Ck.cells, R_ints_ren, R_ints_hLts]; done))) (by repeat' (first | exact trivial | exact .inr ⟨trivial, rfl⟩ | exact .inr ⟨by simp [vOk, hLt, hLts], rfl⟩ | refine And.intro ?_ ?_))
  · refine hk_mmake hE _ [.i64, .u8] rfl ?_
    cbv
    (try simp only [hr1, hr2, ht, hm1, hm2, true_and])
    subst hA hag
    refine ⟨0, _, by omega, ?_, h3⟩
    exact Sub_of [3,2,0,1] (by simp [sigOk, ndG]) (by simp) (by repeat' (first | exact trivial | exact fun _ => rfl | exact fun h => absurd h (by simp) | exact subC_ints rfl | refine And.intro ?_ ?_ | rfl | (simp [subH_nil, hLts, hLt, renCk, renC, sg, Ck.cells, R_ints_ren, R_ints_hLts]; done))) (by repeat' (first | exact trivial | exact .inr ⟨trivial, rfl⟩ | exact .inr ⟨by simp [vOk, hLt, hLts], rfl⟩ | refine And.intro ?_ ?_))
  · refine hk_mmake hE _ [.i64, .u8] rfl ?_
    cbv
    (try simp only [hr1, hr2, ht, hm1, hm2, true_and])
    subst hA hag
    refine ⟨0, _, by omega, ?_, h3⟩
    exact Sub_of [3,2,1,0] (by simp [sigOk, ndG]) (by simp) (by repeat' (first | exact trivial | exact fun _ => rfl | exact fun h => absurd h (by simp) | exact subC_ints rfl | refine And.intro ?_ ?_ | rfl | (simp [subH_nil, hLts, hLt, renCk, renC, sg, Ck.cells, R_ints_ren, R_ints_hLts]; done))) (by repeat' (first | exact trivial | exact .inr ⟨trivial, rfl⟩ | exact .inr ⟨by simp [vOk, hLt, hLts], rfl⟩ | refine And.intro ?_ ?_))
end Go.Sx

/- lzw: what a table tells without the children's help. -/
set_option maxRecDepth 100000
set_option maxHeartbeats 4000000
set_option linter.unusedVariables false
set_option linter.unusedSimpArgs false
namespace Go.Sx
open Go.Proofs.Try

/-- A table that may be. -/
structure ZT (ps es : List Int) (last used : Int) : Prop where
  pl : ps.length = 8192
  el : es.length = 8192
  la : 256 ≤ last ∧ last ≤ 8191
  us : 0 ≤ used ∧ used ≤ 8192
  pr : ∀ q, q < 8192 → ps.getD q 0 = -1 ∨ (0 ≤ ps.getD q 0 ∧ ps.getD q 0 ≤ 8191)
  er : ∀ q, 0 ≤ es.getD q 0 ∧ es.getD q 0 ≤ 255
/-- A table that is only looked at. -/
def VH (A : Ar) (ps es : List Int) (last used : Int) : List Ck :=
  [.vw [.lst 1 8192, .lst 2 8192, .mapv 3, .int .i64 last, .int .i64 used], .vw (A.ints .i64 ps), .vw (A.ints .u8 es), .vw []]

/-- Where a table stands. -/
structure TV (A : Ar) (H : List Ck) (h0 h1 h2 h3 : Nat) (ps es : List Int) (last used : Int) : Prop where
  c0 : cellsAt H h0 0 5 = some [.lst h1 8192, .lst h2 8192, .mapv h3, .int .i64 last, .int .i64 used]
  c1 : cellsAt H h1 0 8192 = some (A.ints .i64 ps)
  c2 : cellsAt H h2 0 8192 = some (A.ints .u8 es)
  c3 : cellsAt H h3 0 0 = some []

theorem zcells {A : Ar} (hA : A = R) {H : List Ck} {j n : Nat} {c : Ck} {k : IntKind} {l : List Int} (hc : H[j]? = some c) (he : c.cells = A.ints k l) (hn : l.length = n) : cellsAt H j 0 n = some (A.ints k l) := by
  rw [cellsAt_eq hc (by rw [he, A_ints_len hA]; omega), he, List.drop_zero, ← hn, ← A_ints_len hA k l, List.take_length]
theorem zcell0 {H : List Ck} {j : Nat} {c : Ck} (hc : H[j]? = some c) : cellsAt H j 0 0 = some [] := by
  rw [cellsAt_eq hc (by omega)]
  rfl
theorem TV.vws {A : Ar} (hA : A = R) {H : List Ck} {h0 h1 h2 h3 : Nat} {ps es : List Int} {last used : Int} (hT : ZT ps es last used) {c3 : Ck} (k0 : H[h0]? = some (.vw [.lst h1 8192, .lst h2 8192, .mapv h3, .int .i64 last, .int .i64 used]))
    (k1 : H[h1]? = some (.vw (A.ints .i64 ps))) (k2 : H[h2]? = some (.vw (A.ints .u8 es))) (k3 : H[h3]? = some c3) : TV A H h0 h1 h2 h3 ps es last used :=
  ⟨by rw [cellsAt_eq k0 (by show 0 + 5 ≤ 5; omega)]; rfl, zcells hA k1 rfl hT.pl, zcells hA k2 rfl hT.el, zcell0 k3⟩
/-- ... one's own. -/
structure TO (A : Ar) (H : List Ck) (h0 h1 h2 h3 : Nat) (ps es : List Int) (m : List Int → Option Int) (last used : Int) : Prop where
  o0 : H[h0]? = some (.box 79 [.lst h1 8192, .lst h2 8192, .mapv h3, .int .i64 last, .int .i64 used])
  o1 : H[h1]? = some (.lst 3 1 (A.ints .i64 ps))
  o2 : H[h2]? = some (.lst 5 1 (A.ints .u8 es))
  o3 : H[h3]? = some (.mp [.i64, .u8] m)
theorem TO.tv {A : Ar} (hA : A = R) {H : List Ck} {h0 h1 h2 h3 : Nat} {ps es : List Int} {m : List Int → Option Int} {last used : Int} (hT : ZT ps es last used) (h : TO A H h0 h1 h2 h3 ps es m last used) : TV A H h0 h1 h2 h3 ps es last used :=
  ⟨by rw [cellsAt_eq h.o0 (by show 0 + 5 ≤ 5; omega)]; rfl, zcells hA h.o1 rfl hT.pl, zcells hA h.o2 rfl hT.el, zcell0 h.o3⟩

section
variable {A : Ar} {C : CallT} {s : St} {κ : List Nat → SV → List Ck → Prop} {h0 h1 h2 h3 : Nat} {ps es : List Int} {last used : Int}
theorem matchV (hA : A = R) (k : TV A s.H h0 h1 h2 h3 ps es last used) (hT : ZT ps es last used) : matchH 4 (linkOf s.H.length [(h0, 0, false), (h1, 0, false), (h2, 0, false), (h3, 0, false)]) s.H [(h0, 0, false), (h1, 0, false), (h2, 0, false), (h3, 0, false)] (VH R ps es last used) := by
  refine ⟨⟨(show 1 < 4 by omega), (show 2 < 4 by omega), (show 3 < 4 by omega), trivial, trivial, trivial⟩, ⟨rfl, rfl, trivial, trivial, trivial, trivial⟩, k.c0, hLtsA rfl .., zOksA rfl .., ?_, hLtsA rfl .., zOksA rfl .., ?_, trivial, trivial, k.c3, trivial⟩
  · rw [renA rfl, A_ints_len rfl, hT.pl, ← hA]; exact k.c1
  · rw [renA rfl, A_ints_len rfl, hT.el, ← hA]; exact k.c2
end

theorem s_zok (ps es : List Int) (last used : Int) (hT : ZT ps es last used) : Spec prog 63 [.ptr 0 0] (VH R ps es last used) (fun r H => r = .bool true ∧ H = VH R ps es last used) := by
  refine Spec_of_kX (D := fun i => (0, [])) (ks := [0, 2]) tok mixed (fn := f63) rfl rfl rfl (by kernel_rfl) (N := 13) rfl (rs := [.tmp 2]) rfl (Nat.le_of_ble_eq_true rfl) fun A C Kp E ag L q hA hC hK hE hag hL hq => ?_
  rw [← hA]
  cbv
  simp only [natA hA, gtrA hA]
  subst hA hq
  exact ⟨rfl, rfl⟩

section
variable {A : Ar} {C : CallT} {s : St} {κ : List Nat → SV → List Ck → Prop} {h0 h1 h2 h3 : Nat} {ps es : List Int} {last used : Int}
theorem call_zok (hC : C = CallX prog) (hA : A = R) (hT : ZT ps es last used) (k : TV A s.H h0 h1 h2 h3 ps es last used) (hk : κ [] (.bool true) s.H) : C 63 [.ptr h0 0] s κ :=
  cal_vw hC (s_zok ps es last used hT) [(h0, 0, false), (h1, 0, false), (h2, 0, false), (h3, 0, false)] rfl (matchV hA k hT) ⟨⟨(show 0 < 4 by omega), trivial, rfl⟩, trivial⟩ rfl hk
end

/-- The next code. -/
def NxQ (ps : List Int) (last n : Int) : Prop := (n = -1 ∧ ∀ q : Nat, last < (q : Int) → q < 8192 → ps.getD q 0 ≠ -1) ∨ (∃ j : Nat, n = (j : Int) ∧ last < n ∧ j < 8192 ∧ ps.getD j 0 = -1 ∧ ∀ q : Nat, last < (q : Int) → q < j → ps.getD q 0 ≠ -1)
theorem NxQ_uniq {ps : List Int} {last n n' : Int} (h : NxQ ps last n) (h' : NxQ ps last n') : n = n' := by
  rcases h with ⟨h1, h2⟩ | ⟨j, h1, h2, h3, h4, h5⟩ <;> rcases h' with ⟨g1, g2⟩ | ⟨k, g1, g2, g3, g4, g5⟩
  · rw [h1, g1]
  · exact absurd g4 (h2 k (by omega) g3)
  · exact absurd h4 (g2 j (by omega) h3)
  · rcases Nat.lt_trichotomy j k with hlt | he | hlt
    · exact absurd h4 (g5 j (by omega) hlt)
    · rw [h1, g1, he]
    · exact absurd g4 (h5 k (by omega) hlt)

theorem s_znext (ps es : List Int) (last used : Int) (hT : ZT ps es last used) : Spec prog 52 [.ptr 0 0] (VH R ps es last used) (fun r H => ∃ n, NxQ ps last n ∧ r = .int .i64 n ∧ H = VH R ps es last used) := by
  refine Spec_of_kX (D := fun i => (0, [])) (ks := [0, 2, 3]) tok mixed (fn := f52) rfl rfl rfl (by kernel_rfl) (N := 25) rfl (rs := [.tmp 2]) rfl (Nat.le_of_ble_eq_true rfl) fun A C Kp E ag L q hA hC hK hE hag hL hq => ?_
  rw [← hA]
  cbv
  refine call_zok hC hA hT (TV.vws hA hT rfl rfl rfl rfl) ?_
  cbv
  have hnt : A.not true = false := by rw [notA hA]; rfl
  simp only [hnt]
  cbv
  have hpl := hT.pl
  have hla := hT.la
  have e1 : A.bin .add .i64 last 1 = last + 1 := by rw [addA hA, wrap64 (by omega)]
  simp only [e1]
  rw [hL]
  refine loop_keep (fun kk s => ∃ (i : Int) (j : Nat), i = (j : Int) ∧ last < i ∧ j ≤ 8192 ∧ (∀ q : Nat, last < (q : Int) → q < j → ps.getD q 0 ≠ -1) ∧ kk = 8192 - j ∧ s = ⟨[(0, .ptr 0 0), (2, .int .i64 0), (3, .int .i64 i)], VH A ps es last used⟩)
    [0, 2, 3] (8192 - (last.toNat + 1)) ⟨last + 1, last.toNat + 1, by omega, by omega, by omega, fun q h1 h2 => by omega, rfl, rfl⟩ ?_
  rintro kk _ ⟨i, j, hi, hli, hj, hno, hkk, rfl⟩
  cbv
  (try simp only [ncast] at *)
  refine ifB_intro (fun h => ?_) (fun h => ?_)
  · have hlt := h
    (try simp only [natA hA, lssA hA, leqA hA, gtrA hA, geqA hA, eqlA hA, neqA hA, notA hA, beqA hA, decide_eq_true_eq, decide_eq_false_iff_not, beq_iff_eq, beq_eq_false_iff_ne, bne_iff_ne, bne_eq_false_iff_eq, Bool.not_eq_true', Bool.not_eq_false', ncast, Int.not_lt, Int.not_le, ne_eq, not_true_eq_false, not_false_eq_true, false_or, true_and] at hlt)
    (try rw [h]); clear h
    cbv
    (try simp only [ncast] at *)
    refine rdA hA (by omega) (by omega) fun x hx => ?_
    rw [show 0 + i.toNat = j by omega] at hx
    cbv
    (try simp only [ncast] at *)
    refine ifB_intro (fun h => ?_) (fun h => ?_)
    · have hfree := h
      (try simp only [natA hA, lssA hA, leqA hA, gtrA hA, geqA hA, eqlA hA, neqA hA, notA hA, beqA hA, decide_eq_true_eq, decide_eq_false_iff_not, beq_iff_eq, beq_eq_false_iff_ne, bne_iff_ne, bne_eq_false_iff_eq, Bool.not_eq_true', Bool.not_eq_false', ncast, Int.not_lt, Int.not_le, ne_eq, not_true_eq_false, not_false_eq_true, false_or, true_and] at hfree)
      (try rw [h]); clear h
      cbv
      (try simp only [ncast] at *)
      subst hA hq
      exact ⟨i, .inr ⟨j, hi, hli, by omega, by rw [← hx]; exact hfree, hno⟩, rfl, rfl⟩
    · have hfull := h
      (try simp only [natA hA, lssA hA, leqA hA, gtrA hA, geqA hA, eqlA hA, neqA hA, notA hA, beqA hA, decide_eq_true_eq, decide_eq_false_iff_not, beq_iff_eq, beq_eq_false_iff_ne, bne_iff_ne, bne_eq_false_iff_eq, Bool.not_eq_true', Bool.not_eq_false', ncast, Int.not_lt, Int.not_le, ne_eq, not_true_eq_false, not_false_eq_true, false_or, true_and] at hfull)
      (try rw [h]); clear h
      cbv
      (try simp only [ncast] at *)
      have e2 : A.bin .add .i64 i 1 = i + 1 := by rw [addA hA, wrap64 (by omega)]
      simp only [e2]
      subst hag
      refine ⟨8192 - (j + 1), ⟨[(0, .ptr 0 0), (2, .int .i64 0), (3, .int .i64 (i + 1))], VH A ps es last used⟩, by omega, ?_, i + 1, j + 1, by omega, by omega, by omega, ?_, rfl, rfl⟩
      · subst hA
        unfold VH
        exact Sub_of [0, 1, 2, 3] (by simp [sigOk, ndG]) (by simp) (by repeat' (first | exact trivial | exact fun _ => rfl | exact fun h => absurd h (by simp) | exact subC_ints rfl | refine And.intro ?_ ?_ | rfl | (simp [subH_nil, hLts, hLt, renCk, renC, sg, Ck.cells, R_ints_ren, R_ints_hLts]; done))) (by repeat' (first | exact trivial | exact .inr ⟨trivial, rfl⟩ | exact .inr ⟨by simp [vOk, hLt, hLts], rfl⟩ | refine And.intro ?_ ?_))
      · intro q q1 q2
        by_cases hq2 : q = j
        · subst hq2; rw [← hx]; exact hfull
        · exact hno q q1 (by omega)
  · have hge := h
    (try simp only [natA hA, lssA hA, leqA hA, gtrA hA, geqA hA, eqlA hA, neqA hA, notA hA, beqA hA, decide_eq_true_eq, decide_eq_false_iff_not, beq_iff_eq, beq_eq_false_iff_ne, bne_iff_ne, bne_eq_false_iff_eq, Bool.not_eq_true', Bool.not_eq_false', ncast, Int.not_lt, Int.not_le, ne_eq, not_true_eq_false, not_false_eq_true, false_or, true_and] at hge)
    (try rw [h]); clear h
    cbv
    (try simp only [ncast] at *)
    subst hA hq
    exact ⟨-1, .inl ⟨rfl, fun q q1 q2 => hno q q1 (by omega)⟩, rfl, rfl⟩

section
variable {A : Ar} {C : CallT} {s : St} {κ : List Nat → SV → List Ck → Prop} {h0 h1 h2 h3 : Nat} {ps es : List Int} {last used : Int}
theorem call_znext (hC : C = CallX prog) (hA : A = R) (hT : ZT ps es last used) (k : TV A s.H h0 h1 h2 h3 ps es last used) (hk : ∀ n, NxQ ps last n → κ [] (.int .i64 n) s.H) : C 52 [.ptr h0 0] s κ := by
  refine cal_of hC (s_znext ps es last used hT) [(h0, 0, false), (h1, 0, false), (h2, 0, false), (h3, 0, false)] ?_ (matchV hA k hT) ⟨⟨(show 0 < 4 by omega), trivial, rfl⟩, trivial⟩ ?_
  · simp [lkOk]
  rintro _ _ ⟨n, h, rfl, rfl⟩
  refine ⟨[], .int .i64 n, s.H, rfl, rfl, ?_, hk n h⟩
  simp [backH, setAll, VH]
end

/-- A code's link. -/
def hasL (ps : List Int) (code : Int) : Prop := 256 < code ∧ code < 8192 ∧ ps.getD code.toNat 0 ≠ -1
def LkQ (ps es : List Int) (code p c : Int) (b : Bool) : Prop := (hasL ps code ∧ b = true ∧ p = ps.getD code.toNat 0 ∧ c = es.getD code.toNat 0) ∨ (¬ hasL ps code ∧ b = false ∧ p = 0 ∧ c = 0)
section
variable {A : Ar} {C : CallT} {s : St} {κ : List Nat → SV → List Ck → Prop} {h0 h1 h2 h3 : Nat} {ps es : List Int} {last used : Int}
end

/-- A table of which the children are one's own. -/
def CH (A : Ar) (ps es : List Int) (m : List Int → Option Int) (last used : Int) : List Ck :=
  [.vw [.lst 1 8192, .lst 2 8192, .mapv 3, .int .i64 last, .int .i64 used], .vw (A.ints .i64 ps), .vw (A.ints .u8 es), .mp [.i64, .u8] m]
theorem s_zchild (ps es : List Int) (m : List Int → Option Int) (last used p c : Int) (hT : ZT ps es last used) : Spec prog 57 [.ptr 0 0, .int .i64 p, .int .u8 c] (CH R ps es m last used) (fun r H => r = .int .i64 ((m [p, c]).getD (-1)) ∧ H = CH R ps es m last used) := by
  refine Spec_of_kX (D := fun i => (0, [])) (ks := [0, 1, 2, 6, 7, 8]) tok mixed (fn := f57) rfl rfl rfl (by kernel_rfl) (N := 26) rfl (rs := [.tmp 6]) rfl (Nat.le_of_ble_eq_true rfl) fun A C Kp E ag L q hA hC hK hE hag hL hq => ?_
  rw [← hA]
  cbv
  refine call_zok hC hA hT (TV.vws hA hT rfl rfl rfl rfl) ?_
  cbv
  have hnt : A.not true = false := by rw [notA hA]; rfl
  have hnf : A.not false = true := by rw [notA hA]; rfl
  simp only [hnt]
  cbv
  refine hk_look hE mapL keyL (h := 3) (m := m) (key := [p, c]) _ _ rfl (by kernel_rfl) rfl rfl rfl rfl fun b v hb hv => ?_
  cbv
  cases b with
  | true =>
    simp only [hnt]
    cbv
    have e : (m [p, c]).getD (-1) = v := by
      cases hm : m [p, c] with
      | none => rw [hm] at hb; cases hb
      | some x => rw [hv, hm]; rfl
    subst hA hq
    exact ⟨by rw [e], rfl⟩
  | false =>
    simp only [hnf]
    cbv
    have e : (m [p, c]).getD (-1) = -1 := by
      cases hm : m [p, c] with
      | none => rfl
      | some x => rw [hm] at hb; cases hb
    subst hA hq
    exact ⟨by rw [e], rfl⟩

/-- Where a table stands, its children one's own. -/
theorem call_zchild {A : Ar} {C : CallT} {s : St} {κ : List Nat → SV → List Ck → Prop} {h0 h1 h2 h3 : Nat} {ps es : List Int} {m : List Int → Option Int} {last used p c : Int} (hC : C = CallX prog) (hA : A = R) (hT : ZT ps es last used) (k : TV A s.H h0 h1 h2 h3 ps es last used) (k3 : s.H[h3]? = some (.mp [.i64, .u8] m))
    (hne : h3 ≠ h0 ∧ h3 ≠ h1 ∧ h3 ≠ h2) (hk : κ [h3] (.int .i64 ((m [p, c]).getD (-1))) (set1 s.H h3 (.mp [.i64, .u8] m))) : C 57 [.ptr h0 0, .int .i64 p, .int .u8 c] s κ := by
  refine cal_of hC (s_zchild ps es m last used p c hT) [(h0, 0, false), (h1, 0, false), (h2, 0, false), (h3, 0, true)] ?_ ?_ ⟨⟨(show 0 < 4 by omega), trivial, rfl⟩, ⟨trivial, trivial, rfl⟩, ⟨trivial, trivial, rfl⟩, trivial⟩ ?_
  · simp [lkOk]
    omega
  · refine ⟨⟨(show 1 < 4 by omega), (show 2 < 4 by omega), (show 3 < 4 by omega), trivial, trivial, trivial⟩, ⟨rfl, rfl, trivial, trivial, trivial, trivial⟩, k.c0, hLtsA rfl .., zOksA rfl .., ?_, hLtsA rfl .., zOksA rfl .., ?_, rfl, trivial, trivial, k3, trivial⟩
    · rw [renA rfl, A_ints_len rfl, hT.pl, ← hA]; exact k.c1
    · rw [renA rfl, A_ints_len rfl, hT.el, ← hA]; exact k.c2
  rintro _ _ ⟨rfl, rfl⟩
  refine ⟨[h3], .int .i64 ((m [p, c]).getD (-1)), s.H.set h3 (.mp [.i64, .u8] m), rfl, rfl, ?_, ?_⟩
  · simp [backH, setAll, CH, renCk, renC]
  · rw [set1_eq] at hk
    exact hk
end Go.Sx

/- lzw: Add. -/
set_option maxRecDepth 100000
set_option maxHeartbeats 4000000
set_option linter.unusedVariables false
set_option linter.unusedSimpArgs false
namespace Go.Sx
open Go.Proofs.Try

def AddQ (ps es : List Int) (m : List Int → Option Int) (last used p c n : Int) (ps' es' : List Int) (m' : List Int → Option Int) (last' used' : Int) : Prop :=
  (n = -1 ∧ (NxQ ps last (-1) ∨ p < 0 ∨ 8192 ≤ p ∨ p = 256) ∧ ps' = ps ∧ es' = es ∧ m' = m ∧ last' = last ∧ used' = used) ∨
  (NxQ ps last n ∧ 0 ≤ n ∧ 0 ≤ p ∧ p < 8192 ∧ p ≠ 256 ∧ ps' = ps.set n.toNat p ∧ es' = es.set n.toNat c ∧ last' = n ∧ used' = used + 1 ∧
    ((m [p, c] = none ∨ (∃ v, m [p, c] = some v ∧ n < v)) ∧ (∀ k, m' k = if k = [p, c] then some n else m k) ∨ (∃ v, m [p, c] = some v ∧ v ≤ n) ∧ m' = m))

theorem s_zadd (ps es : List Int) (m : List Int → Option Int) (last used p c : Int) (hT : ZT ps es last used) :
    Spec prog 39 [.ptr 0 0, .int .i64 p, .int .u8 c] (TbH R ps es m last used) (fun r H => ∃ n ps' es' m' last' used', AddQ ps es m last used p c n ps' es' m' last' used' ∧ r = .int .i64 n ∧ H = TbH R ps' es' m' last' used') := by
  refine Spec_of_kF (D := fun i => if i = 4 then (18, [1,2]) else if i = 7 then (10, []) else if i = 9 then (6, []) else (0, [])) (ks := [0, 1, 2, 6, 7, 8, 9, 10]) tok mixed (fn := f39) rfl rfl rfl (by kernel_rfl) (N := 78) rfl (rs := [.tmp 6]) rfl (Nat.le_of_ble_eq_true rfl) fun A C Kp E ag L q hA hC hK hE hag hL hq => ?_
  rw [← hA]
  cbv
  refine call_znext hC hA hT (TO.tv hA hT ⟨rfl, rfl, rfl, rfl⟩) fun n hn => ?_
  cbv
  have hpl := hT.pl
  have hel := hT.el
  have hus := hT.us
  have hnt : A.not true = false := by rw [notA hA]; rfl
  have hnf : A.not false = true := by rw [notA hA]; rfl
  refine ifB_intro (fun h => ?_) (fun h => ?_)
  · have h1 := h
    (try simp only [natA hA, lssA hA, leqA hA, gtrA hA, geqA hA, eqlA hA, neqA hA, notA hA, beqA hA, decide_eq_true_eq, decide_eq_false_iff_not, beq_iff_eq, beq_eq_false_iff_ne, bne_iff_ne, bne_eq_false_iff_eq, Bool.not_eq_true', Bool.not_eq_false', ncast, Int.not_lt, Int.not_le, ne_eq, not_true_eq_false, not_false_eq_true, false_or, true_and] at h1)
    (try rw [h]); clear h
    cbv
    (try simp only [ncast] at *)
    have hn1 : n = -1 := by
      rcases hn with ⟨h, _⟩ | ⟨j, h, h2, _⟩
      · exact h
      · omega
    rw [hn1] at hn
    subst hA hq
    refine Fin_of ⟨[(6, .int .i64 (-1))], TbH R ps es m last used⟩ ?_ ⟨-1, ps, es, m, last, used, .inl ⟨rfl, (.inl hn), rfl, rfl, rfl, rfl, rfl⟩, rfl, rfl⟩
    unfold TbH
    exact Sub_of [0, 1, 2, 3] (by simp [sigOk, ndG]) (by simp) (by repeat' (first | exact trivial | exact fun _ => rfl | exact fun h => absurd h (by simp) | exact subC_ints rfl | refine And.intro ?_ ?_ | rfl | (simp [subH_nil, hLts, hLt, renCk, renC, sg, Ck.cells, R_ints_ren, R_ints_hLts]; done))) (by repeat' (first | exact trivial | exact .inr ⟨trivial, rfl⟩ | exact .inr ⟨by simp [vOk, hLt, hLts], rfl⟩ | refine And.intro ?_ ?_))
  · have h1 := h
    (try simp only [natA hA, lssA hA, leqA hA, gtrA hA, geqA hA, eqlA hA, neqA hA, notA hA, beqA hA, decide_eq_true_eq, decide_eq_false_iff_not, beq_iff_eq, beq_eq_false_iff_ne, bne_iff_ne, bne_eq_false_iff_eq, Bool.not_eq_true', Bool.not_eq_false', ncast, Int.not_lt, Int.not_le, ne_eq, not_true_eq_false, not_false_eq_true, false_or, true_and] at h1)
    (try rw [h]); clear h
    cbv
    (try simp only [ncast] at *)
    refine ifB_intro (fun h => ?_) (fun h => ?_)
    · have h2 := h
      (try simp only [natA hA, lssA hA, leqA hA, gtrA hA, geqA hA, eqlA hA, neqA hA, notA hA, beqA hA, decide_eq_true_eq, decide_eq_false_iff_not, beq_iff_eq, beq_eq_false_iff_ne, bne_iff_ne, bne_eq_false_iff_eq, Bool.not_eq_true', Bool.not_eq_false', ncast, Int.not_lt, Int.not_le, ne_eq, not_true_eq_false, not_false_eq_true, false_or, true_and] at h2)
      (try rw [h]); clear h
      cbv
      (try simp only [ncast] at *)
      subst hA hq
      refine Fin_of ⟨[(6, .int .i64 (-1))], TbH R ps es m last used⟩ ?_ ⟨-1, ps, es, m, last, used, .inl ⟨rfl, (.inr (.inl (by omega))), rfl, rfl, rfl, rfl, rfl⟩, rfl, rfl⟩
      unfold TbH
      exact Sub_of [0, 1, 2, 3] (by simp [sigOk, ndG]) (by simp) (by repeat' (first | exact trivial | exact fun _ => rfl | exact fun h => absurd h (by simp) | exact subC_ints rfl | refine And.intro ?_ ?_ | rfl | (simp [subH_nil, hLts, hLt, renCk, renC, sg, Ck.cells, R_ints_ren, R_ints_hLts]; done))) (by repeat' (first | exact trivial | exact .inr ⟨trivial, rfl⟩ | exact .inr ⟨by simp [vOk, hLt, hLts], rfl⟩ | refine And.intro ?_ ?_))
    · have h2 := h
      (try simp only [natA hA, lssA hA, leqA hA, gtrA hA, geqA hA, eqlA hA, neqA hA, notA hA, beqA hA, decide_eq_true_eq, decide_eq_false_iff_not, beq_iff_eq, beq_eq_false_iff_ne, bne_iff_ne, bne_eq_false_iff_eq, Bool.not_eq_true', Bool.not_eq_false', ncast, Int.not_lt, Int.not_le, ne_eq, not_true_eq_false, not_false_eq_true, false_or, true_and] at h2)
      (try rw [h]); clear h
      cbv
      (try simp only [ncast] at *)
      refine ifB_intro (fun h => ?_) (fun h => ?_)
      · have h3 := h
        (try simp only [natA hA, lssA hA, leqA hA, gtrA hA, geqA hA, eqlA hA, neqA hA, notA hA, beqA hA, decide_eq_true_eq, decide_eq_false_iff_not, beq_iff_eq, beq_eq_false_iff_ne, bne_iff_ne, bne_eq_false_iff_eq, Bool.not_eq_true', Bool.not_eq_false', ncast, Int.not_lt, Int.not_le, ne_eq, not_true_eq_false, not_false_eq_true, false_or, true_and] at h3)
        (try rw [h]); clear h
        cbv
        (try simp only [ncast] at *)
        subst hA hq
        refine Fin_of ⟨[(6, .int .i64 (-1))], TbH R ps es m last used⟩ ?_ ⟨-1, ps, es, m, last, used, .inl ⟨rfl, (.inr (.inr (.inl (by omega)))), rfl, rfl, rfl, rfl, rfl⟩, rfl, rfl⟩
        unfold TbH
        exact Sub_of [0, 1, 2, 3] (by simp [sigOk, ndG]) (by simp) (by repeat' (first | exact trivial | exact fun _ => rfl | exact fun h => absurd h (by simp) | exact subC_ints rfl | refine And.intro ?_ ?_ | rfl | (simp [subH_nil, hLts, hLt, renCk, renC, sg, Ck.cells, R_ints_ren, R_ints_hLts]; done))) (by repeat' (first | exact trivial | exact .inr ⟨trivial, rfl⟩ | exact .inr ⟨by simp [vOk, hLt, hLts], rfl⟩ | refine And.intro ?_ ?_))
      · have h3 := h
        (try simp only [natA hA, lssA hA, leqA hA, gtrA hA, geqA hA, eqlA hA, neqA hA, notA hA, beqA hA, decide_eq_true_eq, decide_eq_false_iff_not, beq_iff_eq, beq_eq_false_iff_ne, bne_iff_ne, bne_eq_false_iff_eq, Bool.not_eq_true', Bool.not_eq_false', ncast, Int.not_lt, Int.not_le, ne_eq, not_true_eq_false, not_false_eq_true, false_or, true_and] at h3)
        (try rw [h]); clear h
        cbv
        (try simp only [ncast] at *)
        refine ifB_intro (fun h => ?_) (fun h => ?_)
        · have h4 := h
          (try simp only [natA hA, lssA hA, leqA hA, gtrA hA, geqA hA, eqlA hA, neqA hA, notA hA, beqA hA, decide_eq_true_eq, decide_eq_false_iff_not, beq_iff_eq, beq_eq_false_iff_ne, bne_iff_ne, bne_eq_false_iff_eq, Bool.not_eq_true', Bool.not_eq_false', ncast, Int.not_lt, Int.not_le, ne_eq, not_true_eq_false, not_false_eq_true, false_or, true_and] at h4)
          (try rw [h]); clear h
          cbv
          (try simp only [ncast] at *)
          subst hA hq
          refine Fin_of ⟨[(6, .int .i64 (-1))], TbH R ps es m last used⟩ ?_ ⟨-1, ps, es, m, last, used, .inl ⟨rfl, (.inr (.inr (.inr (by omega)))), rfl, rfl, rfl, rfl, rfl⟩, rfl, rfl⟩
          unfold TbH
          exact Sub_of [0, 1, 2, 3] (by simp [sigOk, ndG]) (by simp) (by repeat' (first | exact trivial | exact fun _ => rfl | exact fun h => absurd h (by simp) | exact subC_ints rfl | refine And.intro ?_ ?_ | rfl | (simp [subH_nil, hLts, hLt, renCk, renC, sg, Ck.cells, R_ints_ren, R_ints_hLts]; done))) (by repeat' (first | exact trivial | exact .inr ⟨trivial, rfl⟩ | exact .inr ⟨by simp [vOk, hLt, hLts], rfl⟩ | refine And.intro ?_ ?_))
        · have h4 := h
          (try simp only [natA hA, lssA hA, leqA hA, gtrA hA, geqA hA, eqlA hA, neqA hA, notA hA, beqA hA, decide_eq_true_eq, decide_eq_false_iff_not, beq_iff_eq, beq_eq_false_iff_ne, bne_iff_ne, bne_eq_false_iff_eq, Bool.not_eq_true', Bool.not_eq_false', ncast, Int.not_lt, Int.not_le, ne_eq, not_true_eq_false, not_false_eq_true, false_or, true_and] at h4)
          (try rw [h]); clear h
          cbv
          (try simp only [ncast] at *)
          have hn8 : n < 8192 := by
            rcases hn with ⟨h, _⟩ | ⟨j, h, h2, h3, _⟩ <;> omega
          refine wrA hA (by (first | omega | (try simp only [natA hA, lssA hA, leqA hA, gtrA hA, geqA hA, eqlA hA, neqA hA, notA hA, beqA hA, decide_eq_true_eq, decide_eq_false_iff_not, beq_iff_eq, beq_eq_false_iff_ne, bne_iff_ne, bne_eq_false_iff_eq, Bool.not_eq_true', Bool.not_eq_false', ncast, Int.not_lt, Int.not_le, ne_eq, not_true_eq_false, not_false_eq_true, false_or, true_and, addA hA, subA' hA, inrA hA, ge0A hA, ne0A hA, leIA hA, ixA hA, cntA hA, addNA hA, tnA hA, posA hA, Go.IntKind.wrap_i64] at *) <;> omega | (try simp only [decide_eq_true_eq, decide_eq_false_iff_not, beq_iff_eq, beq_eq_false_iff_ne, bne_iff_ne, bne_eq_false_iff_eq, Bool.not_eq_true', Bool.not_eq_false', ncast, Int.not_lt, Int.not_le, ne_eq, not_true_eq_false, not_false_eq_true, false_or, true_and, Go.IntKind.wrap_i64] at *) <;> omega)) (by (first | omega | (try simp only [natA hA, lssA hA, leqA hA, gtrA hA, geqA hA, eqlA hA, neqA hA, notA hA, beqA hA, decide_eq_true_eq, decide_eq_false_iff_not, beq_iff_eq, beq_eq_false_iff_ne, bne_iff_ne, bne_eq_false_iff_eq, Bool.not_eq_true', Bool.not_eq_false', ncast, Int.not_lt, Int.not_le, ne_eq, not_true_eq_false, not_false_eq_true, false_or, true_and, addA hA, subA' hA, inrA hA, ge0A hA, ne0A hA, leIA hA, ixA hA, cntA hA, addNA hA, tnA hA, posA hA, Go.IntKind.wrap_i64] at *) <;> omega | (try simp only [decide_eq_true_eq, decide_eq_false_iff_not, beq_iff_eq, beq_eq_false_iff_ne, bne_iff_ne, bne_eq_false_iff_eq, Bool.not_eq_true', Bool.not_eq_false', ncast, Int.not_lt, Int.not_le, ne_eq, not_true_eq_false, not_false_eq_true, false_or, true_and, Go.IntKind.wrap_i64] at *) <;> omega)) fun ys hys => ?_
          cbv
          (try simp only [ncast] at *)
          refine wrA hA (by (first | omega | (try simp only [natA hA, lssA hA, leqA hA, gtrA hA, geqA hA, eqlA hA, neqA hA, notA hA, beqA hA, decide_eq_true_eq, decide_eq_false_iff_not, beq_iff_eq, beq_eq_false_iff_ne, bne_iff_ne, bne_eq_false_iff_eq, Bool.not_eq_true', Bool.not_eq_false', ncast, Int.not_lt, Int.not_le, ne_eq, not_true_eq_false, not_false_eq_true, false_or, true_and, addA hA, subA' hA, inrA hA, ge0A hA, ne0A hA, leIA hA, ixA hA, cntA hA, addNA hA, tnA hA, posA hA, Go.IntKind.wrap_i64] at *) <;> omega | (try simp only [decide_eq_true_eq, decide_eq_false_iff_not, beq_iff_eq, beq_eq_false_iff_ne, bne_iff_ne, bne_eq_false_iff_eq, Bool.not_eq_true', Bool.not_eq_false', ncast, Int.not_lt, Int.not_le, ne_eq, not_true_eq_false, not_false_eq_true, false_or, true_and, Go.IntKind.wrap_i64] at *) <;> omega)) (by (first | omega | (try simp only [natA hA, lssA hA, leqA hA, gtrA hA, geqA hA, eqlA hA, neqA hA, notA hA, beqA hA, decide_eq_true_eq, decide_eq_false_iff_not, beq_iff_eq, beq_eq_false_iff_ne, bne_iff_ne, bne_eq_false_iff_eq, Bool.not_eq_true', Bool.not_eq_false', ncast, Int.not_lt, Int.not_le, ne_eq, not_true_eq_false, not_false_eq_true, false_or, true_and, addA hA, subA' hA, inrA hA, ge0A hA, ne0A hA, leIA hA, ixA hA, cntA hA, addNA hA, tnA hA, posA hA, Go.IntKind.wrap_i64] at *) <;> omega | (try simp only [decide_eq_true_eq, decide_eq_false_iff_not, beq_iff_eq, beq_eq_false_iff_ne, bne_iff_ne, bne_eq_false_iff_eq, Bool.not_eq_true', Bool.not_eq_false', ncast, Int.not_lt, Int.not_le, ne_eq, not_true_eq_false, not_false_eq_true, false_or, true_and, Go.IntKind.wrap_i64] at *) <;> omega)) fun zs hzs => ?_
          cbv
          (try simp only [ncast] at *)
          obtain ⟨u1, hu1⟩ : ∃ u1, u1 = used + 1 := ⟨_, rfl⟩
          have e1 : A.bin .add .i64 used 1 = u1 := by rw [addA hA, wrap64 (by omega), hu1]
          simp only [e1]
          rw [show 0 + n.toNat = n.toNat by omega] at hys hzs
          refine hk_look hE mapL keyL (h := 3) (m := m) (key := [p, c]) _ _ rfl (by kernel_rfl) rfl rfl rfl rfl fun b v hb hv => ?_
          cbv
          cases b with
          | false =>
            simp only [hnf]
            cbv
            have hno : m [p, c] = none := by
              cases hm : m [p, c] with
              | none => rfl
              | some x => rw [hm] at hb; cases hb
            refine hk_mput hE mapL keyL (h := 3) (m := m) (key := [p, c]) _ _ _ rfl rfl rfl rfl rfl rfl fun m' hm' => ?_
            cbv
            have hvv : m [p, c] = none ∨ ∃ v, m [p, c] = some v ∧ n < v := (.inl hno)
            subst hA hq
            refine Fin_of ⟨[(6, .int .i64 n)], TbH R ys zs m' n u1⟩ ?_ ⟨n, ys, zs, m', n, u1, .inr ⟨hn, h1, h2, h3, h4, hys, hzs, rfl, hu1, (.inl ⟨hvv, hm'⟩)⟩, rfl, rfl⟩
            unfold TbH
            exact Sub_of [0, 1, 2, 3] (by simp [sigOk, ndG]) (by simp) (by repeat' (first | exact trivial | exact fun _ => rfl | exact fun h => absurd h (by simp) | exact subC_ints rfl | refine And.intro ?_ ?_ | rfl | (simp [subH_nil, hLts, hLt, renCk, renC, sg, Ck.cells, R_ints_ren, R_ints_hLts]; done))) (by repeat' (first | exact trivial | exact .inr ⟨trivial, rfl⟩ | exact .inr ⟨by simp [vOk, hLt, hLts], rfl⟩ | refine And.intro ?_ ?_))
          | true =>
            simp only [hnt]
            cbv
            have hso : m [p, c] = some v := by
              cases hm : m [p, c] with
              | none => rw [hm] at hb; cases hb
              | some x => rw [hv, hm]; rfl
            refine ifB_intro (fun h => ?_) (fun h => ?_)
            · have hlt := h
              (try simp only [natA hA, lssA hA, leqA hA, gtrA hA, geqA hA, eqlA hA, neqA hA, notA hA, beqA hA, decide_eq_true_eq, decide_eq_false_iff_not, beq_iff_eq, beq_eq_false_iff_ne, bne_iff_ne, bne_eq_false_iff_eq, Bool.not_eq_true', Bool.not_eq_false', ncast, Int.not_lt, Int.not_le, ne_eq, not_true_eq_false, not_false_eq_true, false_or, true_and] at hlt)
              (try rw [h]); clear h
              cbv
              (try simp only [ncast] at *)
              refine hk_mput hE mapL keyL (h := 3) (m := m) (key := [p, c]) _ _ _ rfl rfl rfl rfl rfl rfl fun m' hm' => ?_
              cbv
              have hvv : m [p, c] = none ∨ ∃ v, m [p, c] = some v ∧ n < v := (.inr ⟨v, hso, hlt⟩)
              subst hA hq
              refine Fin_of ⟨[(6, .int .i64 n)], TbH R ys zs m' n u1⟩ ?_ ⟨n, ys, zs, m', n, u1, .inr ⟨hn, h1, h2, h3, h4, hys, hzs, rfl, hu1, (.inl ⟨hvv, hm'⟩)⟩, rfl, rfl⟩
              unfold TbH
              exact Sub_of [0, 1, 2, 3] (by simp [sigOk, ndG]) (by simp) (by repeat' (first | exact trivial | exact fun _ => rfl | exact fun h => absurd h (by simp) | exact subC_ints rfl | refine And.intro ?_ ?_ | rfl | (simp [subH_nil, hLts, hLt, renCk, renC, sg, Ck.cells, R_ints_ren, R_ints_hLts]; done))) (by repeat' (first | exact trivial | exact .inr ⟨trivial, rfl⟩ | exact .inr ⟨by simp [vOk, hLt, hLts], rfl⟩ | refine And.intro ?_ ?_))
            · have hge := h
              (try simp only [natA hA, lssA hA, leqA hA, gtrA hA, geqA hA, eqlA hA, neqA hA, notA hA, beqA hA, decide_eq_true_eq, decide_eq_false_iff_not, beq_iff_eq, beq_eq_false_iff_ne, bne_iff_ne, bne_eq_false_iff_eq, Bool.not_eq_true', Bool.not_eq_false', ncast, Int.not_lt, Int.not_le, ne_eq, not_true_eq_false, not_false_eq_true, false_or, true_and] at hge)
              (try rw [h]); clear h
              cbv
              (try simp only [ncast] at *)
              subst hA hq
              refine Fin_of ⟨[(6, .int .i64 n)], TbH R ys zs m n u1⟩ ?_ ⟨n, ys, zs, m, n, u1, .inr ⟨hn, h1, h2, h3, h4, hys, hzs, rfl, hu1, (.inr ⟨⟨v, hso, hge⟩, rfl⟩)⟩, rfl, rfl⟩
              unfold TbH
              exact Sub_of [0, 1, 2, 3] (by simp [sigOk, ndG]) (by simp) (by repeat' (first | exact trivial | exact fun _ => rfl | exact fun h => absurd h (by simp) | exact subC_ints rfl | refine And.intro ?_ ?_ | rfl | (simp [subH_nil, hLts, hLt, renCk, renC, sg, Ck.cells, R_ints_ren, R_ints_hLts]; done))) (by repeat' (first | exact trivial | exact .inr ⟨trivial, rfl⟩ | exact .inr ⟨by simp [vOk, hLt, hLts], rfl⟩ | refine And.intro ?_ ?_))
end Go.Sx

/- lzw: Clear. -/
set_option maxRecDepth 100000
set_option maxHeartbeats 4000000
set_option linter.unusedVariables false
set_option linter.unusedSimpArgs false
namespace Go.Sx
open Go.Proofs.Try

/-- Somebody's parent. -/
def isP (ps : List Int) (q : Nat) : Prop := ∃ k, k < 8192 ∧ ps.getD k 0 = (q : Int)
/-- Stays. -/
def kept (ps : List Int) (q : Nat) : Prop := ps.getD q 0 ≠ -1 ∧ isP ps q
def cnt (ps : List Int) : Int := (ps.countP (· != -1) : Nat)
theorem cnt_bnd {ps : List Int} (h : ps.length = 8192) : 0 ≤ cnt ps ∧ cnt ps ≤ 8192 := by
  have := List.countP_le_length (l := ps) (p := (· != -1))
  unfold cnt
  omega
/-- The least of those above i. -/
def LeastQ (ps es : List Int) (P : Nat → Prop) (i : Nat) (k : List Int) (o : Option Int) : Prop :=
  (o = none ∧ ∀ q, i < q → q < 8192 → P q → [ps.getD q 0, es.getD q 0] ≠ k) ∨
  (∃ q : Nat, i < q ∧ q < 8192 ∧ P q ∧ [ps.getD q 0, es.getD q 0] = k ∧ o = some (q : Int) ∧ ∀ r, i < r → r < q → P r → [ps.getD r 0, es.getD r 0] ≠ k)
/-- Parents when those above i have been gone through. -/
def ClP (ps : List Int) (i : Nat) (ps' : List Int) : Prop := ps'.length = 8192 ∧ ∀ q, q < 8192 → (kept ps q ∨ q ≤ i → ps'.getD q 0 = ps.getD q 0) ∧ (¬ (kept ps q ∨ q ≤ i) → ps'.getD q 0 = -1)
def ClrQ (ps es : List Int) (used : Int) (ps' : List Int) (m' : List Int → Option Int) (used' : Int) : Prop :=
  ClP ps 256 ps' ∧ used' - cnt ps' = used - cnt ps ∧ ∀ k, LeastQ ps es (kept ps) 256 k (m' k)
/-- Who is somebody's parent. -/
def HsQ (ps : List Int) (j : Nat) (hs : List Int) : Prop := hs.length = 8192 ∧ ∀ q, q < 8192 → (hs.getD q 0 ≠ 0 ↔ ∃ k, k < j ∧ ps.getD k 0 = (q : Int))

theorem HsQ_skip {ps hs : List Int} {j : Nat} (h : HsQ ps j hs) (hx : ps.getD j 0 = -1) : HsQ ps (j + 1) hs := by
  refine ⟨h.1, fun q hq => (h.2 q hq).trans ⟨fun ⟨k, h1, h2⟩ => ⟨k, by omega, h2⟩, fun ⟨k, h1, h2⟩ => ⟨k, ?_, h2⟩⟩⟩
  rcases Nat.lt_or_ge k j with h3 | h3
  · exact h3
  · rw [show k = j by omega] at h2
    omega
theorem HsQ_put {ps hs : List Int} {j : Nat} {x : Int} (h : HsQ ps j hs) (hx : x = ps.getD j 0) (h0 : 0 ≤ x ∧ x < 8192) : HsQ ps (j + 1) (hs.set x.toNat 1) := by
  refine ⟨by rw [List.length_set]; exact h.1, fun q hq => ?_⟩
  rw [List.getD, List.getElem?_set]
  by_cases hqx : x.toNat = q
  · rw [if_pos hqx, if_pos (by rw [h.1]; omega)]
    exact ⟨fun _ => ⟨j, by omega, by rw [← hx]; omega⟩, fun _ => by simp⟩
  · rw [if_neg hqx, ← List.getD]
    refine (h.2 q hq).trans ⟨fun ⟨k, h1, h2⟩ => ⟨k, by omega, h2⟩, fun ⟨k, h1, h2⟩ => ⟨k, ?_, h2⟩⟩
    rcases Nat.lt_or_ge k j with h3 | h3
    · exact h3
    · rw [show k = j by omega, ← hx] at h2
      omega

theorem cnt_set {ps : List Int} {i : Nat} (hi : i < ps.length) (v : Int) : cnt (ps.set i v) = cnt ps - (if ps.getD i 0 = -1 then 0 else 1) + (if v = -1 then 0 else 1) := by
  unfold cnt
  have e : ps.getD i 0 = ps[i] := by simp [List.getD, hi]
  have hle : (if (ps[i] != -1) = true then 1 else 0) ≤ ps.countP (· != -1) := by
    split
    · rename_i h
      exact List.countP_pos_iff.2 ⟨ps[i], List.getElem_mem hi, h⟩
    · omega
  rw [List.countP_set hi, e]
  generalize ps.countP (· != -1) = n at *
  by_cases h1 : ps[i] = -1
  · have b1 : (ps[i] != -1) = false := by simp [h1]
    by_cases h2 : v = -1
    · have b2 : (v != -1) = false := by simp [h2]
      simp only [b1, b2, if_pos h1, if_pos h2, Bool.false_eq_true, if_false] at hle ⊢
      omega
    · have b2 : (v != -1) = true := by simp [h2]
      simp only [b1, b2, if_pos h1, if_neg h2, Bool.false_eq_true, if_false, if_true] at hle ⊢
      omega
  · have b1 : (ps[i] != -1) = true := by simp [h1]
    by_cases h2 : v = -1
    · have b2 : (v != -1) = false := by simp [h2]
      simp only [b1, b2, if_neg h1, if_pos h2, Bool.false_eq_true, if_false, if_true] at hle ⊢
      omega
    · have b2 : (v != -1) = true := by simp [h2]
      simp only [b1, b2, if_neg h1, if_neg h2, Bool.false_eq_true, if_false, if_true] at hle ⊢
      omega

theorem ClP_keep {ps ps' : List Int} {i : Nat} (h : ClP ps i ps') (hi : 0 < i) (hk : kept ps i ∨ ps.getD i 0 = -1) : ClP ps (i - 1) ps' := by
  refine ⟨h.1, fun q hq => ⟨fun hc => (h.2 q hq).1 (by rcases hc with hc | hc; exact .inl hc; exact .inr (by omega)), fun hc => ?_⟩⟩
  by_cases hqi : q = i
  · subst hqi
    rcases hk with hk | hk
    · exact absurd (.inl hk) hc
    · rw [(h.2 q hq).1 (.inr (Nat.le_refl _)), hk]
  · exact (h.2 q hq).2 fun h2 => hc (by rcases h2 with h2 | h2; exact .inl h2; exact .inr (by omega))
theorem ClP_free {ps ps' : List Int} {i : Nat} (h : ClP ps i ps') (hi : 0 < i) (h8 : i < 8192) (hk : ¬ kept ps i) : ClP ps (i - 1) (ps'.set i (-1)) := by
  refine ⟨by rw [List.length_set]; exact h.1, fun q hq => ?_⟩
  rw [List.getD, List.getElem?_set]
  by_cases hqi : i = q
  · subst hqi
    rw [if_pos rfl, if_pos (by rw [h.1]; omega)]
    exact ⟨fun hc => by rcases hc with hc | hc; exact absurd hc hk; omega, fun _ => rfl⟩
  · rw [if_neg hqi, ← List.getD]
    exact ⟨fun hc => (h.2 q hq).1 (by rcases hc with hc | hc; exact .inl hc; exact .inr (by omega)), fun hc => (h.2 q hq).2 fun h2 => hc (by rcases h2 with h2 | h2; exact .inl h2; exact .inr (by omega))⟩

theorem Least_skip {ps es : List Int} {P : Nat → Prop} {i : Nat} {k : List Int} {o : Option Int} (h : LeastQ ps es P i k o) (hi : 0 < i) (hk : P i → [ps.getD i 0, es.getD i 0] ≠ k) : LeastQ ps es P (i - 1) k o := by
  rcases h with ⟨h1, h2⟩ | ⟨q, h1, h2, h3, h4, h5, h6⟩
  · refine .inl ⟨h1, fun q a b c => ?_⟩
    by_cases hq : q = i
    · subst hq; exact hk c
    · exact h2 q (by omega) b c
  · refine .inr ⟨q, by omega, h2, h3, h4, h5, fun r a b c => ?_⟩
    by_cases hr : r = i
    · subst hr; exact hk c
    · exact h6 r (by omega) b c
theorem Least_put {ps es : List Int} {P : Nat → Prop} {i : Nat} {m m' : List Int → Option Int} {key : List Int} {v : Int} (h : ∀ k, LeastQ ps es P i k (m k)) (hi : 0 < i) (h8 : i < 8192) (hP : P i) (hkey : key = [ps.getD i 0, es.getD i 0]) (hv : v = (i : Int)) (hm : ∀ k, m' k = if k = key then some v else m k) : ∀ k, LeastQ ps es P (i - 1) k (m' k) := by
  intro k
  rw [hm k]
  by_cases hk : k = key
  · rw [if_pos hk]
    exact .inr ⟨i, by omega, h8, hP, by rw [hk, hkey], by rw [hv], fun r a b => by omega⟩
  · rw [if_neg hk]
    exact Least_skip (h k) hi fun _ he => hk (by rw [hkey, he])

theorem s_zclear (ps es : List Int) (m : List Int → Option Int) (last used : Int) (hT : ZT ps es last used) :
    Spec prog 50 [.ptr 0 0] (TbH R ps es m last used) (fun r H => ∃ ps' m' used', ClrQ ps es used ps' m' used' ∧ r = .tup [] ∧ H = TbH R ps' es m' 256 used') := by
  refine Spec_of_kF (D := fun i => if i = 16 then (20, []) else (0, [])) (ks := [0, 2, 4, 5, 13, 14, 15]) tok mixed (fn := f50) rfl rfl rfl (by kernel_rfl) (N := 82) rfl (rs := []) rfl (Nat.le_of_ble_eq_true rfl) fun A C Kp E ag L q hA hC hK hE hag hL hq => ?_
  rw [← hA]
  cbv
  refine call_zok hC hA hT (TO.tv hA hT ⟨rfl, rfl, rfl, rfl⟩) ?_
  cbv
  have hpl := hT.pl
  have hel := hT.el
  have hus := hT.us
  have hnt : A.not true = false := by rw [notA hA]; rfl
  simp only [hnt]
  cbv
  obtain ⟨z8, hz8⟩ : ∃ z8 : List Int, z8 = List.replicate 8192 0 := ⟨_, rfl⟩
  have hr2 : A.row 8192 [.int .u8 0] = A.ints .u8 z8 := by rw [hz8]; exact row_num hA
  have ht : A.tn 8192 = 8192 := by rw [tnA hA]; rfl
  have hm2 : A.mks 1 8192 8192 := by rw [mksA hA]; omega
  have hn8 : A.nat 8192 = 8192 := by rw [natA hA]; rfl
  simp only [hr2, ht, hm2, hn8, true_and]
  have hz : HsQ ps 0 z8 := ⟨by rw [hz8, List.length_replicate], fun p hp => by rw [hz8, getD_rep _ hp]; exact ⟨fun h => absurd rfl h, fun ⟨k, h, _⟩ => by omega⟩⟩
  rw [hL]
  refine loop_keep (fun kk s => ∃ (i : Int) (j : Nat) (hs : List Int) (x4 : SV), i = (j : Int) ∧ j ≤ 8192 ∧ HsQ ps j hs ∧ kk = 8192 - j ∧ s = ⟨[(0, .ptr 0 0), (2, .lst 4 8192), (13, .lst 1 8192), (14, .int .i64 8192), (15, .int .i64 i)], TbH A ps es m last used ++ [.lst 5 1 (A.ints .u8 hs)]⟩)
    [0, 2, 13, 14, 15] 8192 ⟨0, 0, z8, .undef, rfl, by omega, hz, rfl, rfl⟩ ?_
  rintro kk _ ⟨i, j, hs, x4, hi, hj, hH, hkk, rfl⟩
  have hhl := hH.1
  cbv
  (try simp only [ncast] at *)
  refine ifB_intro (fun h => ?_) (fun h => ?_)
  · have hlt := h
    (try simp only [natA hA, lssA hA, leqA hA, gtrA hA, geqA hA, eqlA hA, neqA hA, notA hA, beqA hA, decide_eq_true_eq, decide_eq_false_iff_not, beq_iff_eq, beq_eq_false_iff_ne, bne_iff_ne, bne_eq_false_iff_eq, Bool.not_eq_true', Bool.not_eq_false', ncast, Int.not_lt, Int.not_le, ne_eq, not_true_eq_false, not_false_eq_true, false_or, true_and] at hlt)
    (try rw [h]); clear h
    cbv
    (try simp only [ncast] at *)
    refine rdA hA (by omega) (by omega) fun x hx => ?_
    rw [show 0 + i.toNat = j by omega] at hx
    cbv
    (try simp only [ncast] at *)
    have e2 : A.bin .add .i64 i 1 = i + 1 := by rw [addA hA, wrap64 (by omega)]
    have hpr := hT.pr j (by omega)
    rw [← hx] at hpr
    refine ifB_intro (fun h => ?_) (fun h => ?_)
    · have hne := h
      (try simp only [natA hA, lssA hA, leqA hA, gtrA hA, geqA hA, eqlA hA, neqA hA, notA hA, beqA hA, decide_eq_true_eq, decide_eq_false_iff_not, beq_iff_eq, beq_eq_false_iff_ne, bne_iff_ne, bne_eq_false_iff_eq, Bool.not_eq_true', Bool.not_eq_false', ncast, Int.not_lt, Int.not_le, ne_eq, not_true_eq_false, not_false_eq_true, false_or, true_and] at hne)
      (try rw [h]); clear h
      cbv
      (try simp only [ncast] at *)
      refine wrA hA (by (first | omega | (try simp only [natA hA, lssA hA, leqA hA, gtrA hA, geqA hA, eqlA hA, neqA hA, notA hA, beqA hA, decide_eq_true_eq, decide_eq_false_iff_not, beq_iff_eq, beq_eq_false_iff_ne, bne_iff_ne, bne_eq_false_iff_eq, Bool.not_eq_true', Bool.not_eq_false', ncast, Int.not_lt, Int.not_le, ne_eq, not_true_eq_false, not_false_eq_true, false_or, true_and, addA hA, subA' hA, inrA hA, ge0A hA, ne0A hA, leIA hA, ixA hA, cntA hA, addNA hA, tnA hA, posA hA, Go.IntKind.wrap_i64] at *) <;> omega | (try simp only [decide_eq_true_eq, decide_eq_false_iff_not, beq_iff_eq, beq_eq_false_iff_ne, bne_iff_ne, bne_eq_false_iff_eq, Bool.not_eq_true', Bool.not_eq_false', ncast, Int.not_lt, Int.not_le, ne_eq, not_true_eq_false, not_false_eq_true, false_or, true_and, Go.IntKind.wrap_i64] at *) <;> omega)) (by (first | omega | (try simp only [natA hA, lssA hA, leqA hA, gtrA hA, geqA hA, eqlA hA, neqA hA, notA hA, beqA hA, decide_eq_true_eq, decide_eq_false_iff_not, beq_iff_eq, beq_eq_false_iff_ne, bne_iff_ne, bne_eq_false_iff_eq, Bool.not_eq_true', Bool.not_eq_false', ncast, Int.not_lt, Int.not_le, ne_eq, not_true_eq_false, not_false_eq_true, false_or, true_and, addA hA, subA' hA, inrA hA, ge0A hA, ne0A hA, leIA hA, ixA hA, cntA hA, addNA hA, tnA hA, posA hA, Go.IntKind.wrap_i64] at *) <;> omega | (try simp only [decide_eq_true_eq, decide_eq_false_iff_not, beq_iff_eq, beq_eq_false_iff_ne, bne_iff_ne, bne_eq_false_iff_eq, Bool.not_eq_true', Bool.not_eq_false', ncast, Int.not_lt, Int.not_le, ne_eq, not_true_eq_false, not_false_eq_true, false_or, true_and, Go.IntKind.wrap_i64] at *) <;> omega)) fun ys hys => ?_
      cbv
      (try simp only [ncast] at *)
      rw [show 0 + x.toNat = x.toNat by omega] at hys
      have hH2 : HsQ ps (j + 1) ys := by rw [hys]; exact HsQ_put hH hx (by omega)
      simp only [e2]
      subst hag
      refine ⟨8192 - (j + 1), ⟨[(0, .ptr 0 0), (2, .lst 4 8192), (13, .lst 1 8192), (14, .int .i64 8192), (15, .int .i64 (i + 1))], TbH A ps es m last used ++ [.lst 5 1 (A.ints .u8 ys)]⟩, by omega, ?_, i + 1, j + 1, ys, .undef, by omega, by omega, hH2, rfl, rfl⟩
      subst hA
      unfold TbH
      exact Sub_of [0, 1, 2, 3, 4] (by simp [sigOk, ndG]) (by simp) (by repeat' (first | exact trivial | exact fun _ => rfl | exact fun h => absurd h (by simp) | exact subC_ints rfl | refine And.intro ?_ ?_ | rfl | (simp [subH_nil, hLts, hLt, renCk, renC, sg, Ck.cells, R_ints_ren, R_ints_hLts]; done))) (by repeat' (first | exact trivial | exact .inr ⟨trivial, rfl⟩ | exact .inr ⟨by simp [vOk, hLt, hLts], rfl⟩ | refine And.intro ?_ ?_))
    · have heq := h
      (try simp only [natA hA, lssA hA, leqA hA, gtrA hA, geqA hA, eqlA hA, neqA hA, notA hA, beqA hA, decide_eq_true_eq, decide_eq_false_iff_not, beq_iff_eq, beq_eq_false_iff_ne, bne_iff_ne, bne_eq_false_iff_eq, Bool.not_eq_true', Bool.not_eq_false', ncast, Int.not_lt, Int.not_le, ne_eq, not_true_eq_false, not_false_eq_true, false_or, true_and] at heq)
      (try rw [h]); clear h
      cbv
      (try simp only [ncast] at *)
      have hH2 : HsQ ps (j + 1) hs := HsQ_skip hH (by omega)
      simp only [e2]
      subst hag
      refine ⟨8192 - (j + 1), ⟨[(0, .ptr 0 0), (2, .lst 4 8192), (13, .lst 1 8192), (14, .int .i64 8192), (15, .int .i64 (i + 1))], TbH A ps es m last used ++ [.lst 5 1 (A.ints .u8 hs)]⟩, by omega, ?_, i + 1, j + 1, hs, .undef, by omega, by omega, hH2, rfl, rfl⟩
      subst hA
      unfold TbH
      exact Sub_of [0, 1, 2, 3, 4] (by simp [sigOk, ndG]) (by simp) (by repeat' (first | exact trivial | exact fun _ => rfl | exact fun h => absurd h (by simp) | exact subC_ints rfl | refine And.intro ?_ ?_ | rfl | (simp [subH_nil, hLts, hLt, renCk, renC, sg, Ck.cells, R_ints_ren, R_ints_hLts]; done))) (by repeat' (first | exact trivial | exact .inr ⟨trivial, rfl⟩ | exact .inr ⟨by simp [vOk, hLt, hLts], rfl⟩ | refine And.intro ?_ ?_))
  · have hge := h
    (try simp only [natA hA, lssA hA, leqA hA, gtrA hA, geqA hA, eqlA hA, neqA hA, notA hA, beqA hA, decide_eq_true_eq, decide_eq_false_iff_not, beq_iff_eq, beq_eq_false_iff_ne, bne_iff_ne, bne_eq_false_iff_eq, Bool.not_eq_true', Bool.not_eq_false', ncast, Int.not_lt, Int.not_le, ne_eq, not_true_eq_false, not_false_eq_true, false_or, true_and] at hge)
    (try rw [h]); clear h
    cbv
    (try simp only [ncast] at *)
    have hjj : j = 8192 := by omega
    subst hjj
    refine hk_mclear hE mapL (h := 3) (ks := [.i64, .u8]) (m := m) _ rfl rfl rfl ?_
    cbv
    have hcb := cnt_bnd hpl
    refine loop_keep (fun kk s => ∃ (i u2 : Int) (j : Nat) (ps2 : List Int) (m2 : List Int → Option Int), i = (j : Int) ∧ 256 ≤ j ∧ j < 8192 ∧ ClP ps j ps2 ∧ u2 - cnt ps2 = used - cnt ps ∧ (∀ k, LeastQ ps es (kept ps) j k (m2 k)) ∧ kk = j ∧ s = ⟨[(0, .ptr 0 0), (2, .lst 4 8192), (5, .int .i64 i)], TbH A ps2 es m2 last u2 ++ [.lst 5 1 (A.ints .u8 hs)]⟩)
      [0, 2, 5] 8191 ⟨8191, used, 8191, ps, fun _ => none, rfl, by omega, by omega, ⟨hpl, fun q hq => ⟨fun _ => rfl, fun h => absurd (.inr (by omega)) h⟩⟩, by omega, fun k => .inl ⟨rfl, fun q _ _ => by omega⟩, rfl, rfl⟩ ?_
    clear hi hge hkk
    rintro kk _ ⟨i, u2, j, ps2, m2, hi, hj1, hj2, hP, hu, hM, hkk, rfl⟩
    have hp2 := hP.1
    have hcb2 := cnt_bnd hp2
    cbv
    (try simp only [ncast] at *)
    refine ifB_intro (fun h => ?_) (fun h => ?_)
    · have hgt := h
      (try simp only [natA hA, lssA hA, leqA hA, gtrA hA, geqA hA, eqlA hA, neqA hA, notA hA, beqA hA, decide_eq_true_eq, decide_eq_false_iff_not, beq_iff_eq, beq_eq_false_iff_ne, bne_iff_ne, bne_eq_false_iff_eq, Bool.not_eq_true', Bool.not_eq_false', ncast, Int.not_lt, Int.not_le, ne_eq, not_true_eq_false, not_false_eq_true, false_or, true_and] at hgt)
      (try rw [h]); clear h
      cbv
      (try simp only [ncast] at *)
      have e2 : A.bin .sub .i64 i 1 = i - 1 := by rw [subA' hA, wrap64 (by omega)]
      have e3 : A.bin .sub .i64 u2 1 = u2 - 1 := by rw [subA' hA, wrap64 (by omega)]
      refine rdA hA (by omega) (by omega) fun x hx => ?_
      rw [show 0 + i.toNat = j by omega] at hx
      have hxp : x = ps.getD j 0 := by rw [hx]; exact (hP.2 j hj2).1 (.inr (Nat.le_refl _))
      cbv
      (try simp only [ncast] at *)
      refine ifB_intro (fun h => ?_) (fun h => ?_)
      · have hfree := h
        (try simp only [natA hA, lssA hA, leqA hA, gtrA hA, geqA hA, eqlA hA, neqA hA, notA hA, beqA hA, decide_eq_true_eq, decide_eq_false_iff_not, beq_iff_eq, beq_eq_false_iff_ne, bne_iff_ne, bne_eq_false_iff_eq, Bool.not_eq_true', Bool.not_eq_false', ncast, Int.not_lt, Int.not_le, ne_eq, not_true_eq_false, not_false_eq_true, false_or, true_and] at hfree)
        (try rw [h]); clear h
        cbv
        (try simp only [ncast] at *)
        have hnk : ¬ kept ps j := fun h => h.1 (by rw [← hxp]; exact hfree)
        have q1 := ClP_keep hP (by omega) (.inr (by rw [← hxp]; exact hfree))
        have q3 : ∀ k, LeastQ ps es (kept ps) (j - 1) k (m2 k) := fun k => Least_skip (hM k) (by omega) fun h => absurd h hnk
        simp only [e2]
        subst hag
        refine ⟨j - 1, ⟨[(0, .ptr 0 0), (2, .lst 4 8192), (5, .int .i64 (i - 1))], TbH A ps2 es m2 last u2 ++ [.lst 5 1 (A.ints .u8 hs)]⟩, by omega, ?_, i - 1, u2, j - 1, ps2, m2, by omega, by omega, by omega, q1, hu, q3, rfl, rfl⟩
        subst hA
        unfold TbH
        exact Sub_of [0, 1, 2, 3, 4] (by simp [sigOk, ndG]) (by simp) (by repeat' (first | exact trivial | exact fun _ => rfl | exact fun h => absurd h (by simp) | exact subC_ints rfl | refine And.intro ?_ ?_ | rfl | (simp [subH_nil, hLts, hLt, renCk, renC, sg, Ck.cells, R_ints_ren, R_ints_hLts]; done))) (by repeat' (first | exact trivial | exact .inr ⟨trivial, rfl⟩ | exact .inr ⟨by simp [vOk, hLt, hLts], rfl⟩ | refine And.intro ?_ ?_))
      · have hnf := h
        (try simp only [natA hA, lssA hA, leqA hA, gtrA hA, geqA hA, eqlA hA, neqA hA, notA hA, beqA hA, decide_eq_true_eq, decide_eq_false_iff_not, beq_iff_eq, beq_eq_false_iff_ne, bne_iff_ne, bne_eq_false_iff_eq, Bool.not_eq_true', Bool.not_eq_false', ncast, Int.not_lt, Int.not_le, ne_eq, not_true_eq_false, not_false_eq_true, false_or, true_and] at hnf)
        (try rw [h]); clear h
        cbv
        (try simp only [ncast] at *)
        refine rdA hA (by omega) (by omega) fun y hy => ?_
        rw [show 0 + i.toNat = j by omega] at hy
        have hyP : y ≠ 0 ↔ isP ps j := by rw [hy]; exact hH.2 j hj2
        cbv
        (try simp only [ncast] at *)
        refine ifB_intro (fun h => ?_) (fun h => ?_)
        · have hy0 := h
          (try simp only [natA hA, lssA hA, leqA hA, gtrA hA, geqA hA, eqlA hA, neqA hA, notA hA, beqA hA, decide_eq_true_eq, decide_eq_false_iff_not, beq_iff_eq, beq_eq_false_iff_ne, bne_iff_ne, bne_eq_false_iff_eq, Bool.not_eq_true', Bool.not_eq_false', ncast, Int.not_lt, Int.not_le, ne_eq, not_true_eq_false, not_false_eq_true, false_or, true_and] at hy0)
          (try rw [h]); clear h
          cbv
          (try simp only [ncast] at *)
          refine wrA hA (by (first | omega | (try simp only [natA hA, lssA hA, leqA hA, gtrA hA, geqA hA, eqlA hA, neqA hA, notA hA, beqA hA, decide_eq_true_eq, decide_eq_false_iff_not, beq_iff_eq, beq_eq_false_iff_ne, bne_iff_ne, bne_eq_false_iff_eq, Bool.not_eq_true', Bool.not_eq_false', ncast, Int.not_lt, Int.not_le, ne_eq, not_true_eq_false, not_false_eq_true, false_or, true_and, addA hA, subA' hA, inrA hA, ge0A hA, ne0A hA, leIA hA, ixA hA, cntA hA, addNA hA, tnA hA, posA hA, Go.IntKind.wrap_i64] at *) <;> omega | (try simp only [decide_eq_true_eq, decide_eq_false_iff_not, beq_iff_eq, beq_eq_false_iff_ne, bne_iff_ne, bne_eq_false_iff_eq, Bool.not_eq_true', Bool.not_eq_false', ncast, Int.not_lt, Int.not_le, ne_eq, not_true_eq_false, not_false_eq_true, false_or, true_and, Go.IntKind.wrap_i64] at *) <;> omega)) (by (first | omega | (try simp only [natA hA, lssA hA, leqA hA, gtrA hA, geqA hA, eqlA hA, neqA hA, notA hA, beqA hA, decide_eq_true_eq, decide_eq_false_iff_not, beq_iff_eq, beq_eq_false_iff_ne, bne_iff_ne, bne_eq_false_iff_eq, Bool.not_eq_true', Bool.not_eq_false', ncast, Int.not_lt, Int.not_le, ne_eq, not_true_eq_false, not_false_eq_true, false_or, true_and, addA hA, subA' hA, inrA hA, ge0A hA, ne0A hA, leIA hA, ixA hA, cntA hA, addNA hA, tnA hA, posA hA, Go.IntKind.wrap_i64] at *) <;> omega | (try simp only [decide_eq_true_eq, decide_eq_false_iff_not, beq_iff_eq, beq_eq_false_iff_ne, bne_iff_ne, bne_eq_false_iff_eq, Bool.not_eq_true', Bool.not_eq_false', ncast, Int.not_lt, Int.not_le, ne_eq, not_true_eq_false, not_false_eq_true, false_or, true_and, Go.IntKind.wrap_i64] at *) <;> omega)) fun zs hzs => ?_
          cbv
          (try simp only [ncast] at *)
          rw [show 0 + i.toNat = j by omega] at hzs
          have hnk : ¬ kept ps j := fun h => hyP.2 h.2 hy0
          have q1 : ClP ps (j - 1) zs := by rw [hzs]; exact ClP_free hP (by omega) hj2 hnk
          have q3 : ∀ k, LeastQ ps es (kept ps) (j - 1) k (m2 k) := fun k => Least_skip (hM k) (by omega) fun h => absurd h hnk
          obtain ⟨u3, hu3⟩ : ∃ u3, u3 = u2 - 1 := ⟨_, rfl⟩
          have q2 : u3 - cnt zs = used - cnt ps := by
            rw [hzs, cnt_set (by omega), ← hx, if_neg hnf, if_pos rfl]
            omega
          rw [← hu3] at e3
          simp only [e3]
          simp only [e2]
          subst hag
          refine ⟨j - 1, ⟨[(0, .ptr 0 0), (2, .lst 4 8192), (5, .int .i64 (i - 1))], TbH A zs es m2 last u3 ++ [.lst 5 1 (A.ints .u8 hs)]⟩, by omega, ?_, i - 1, u3, j - 1, zs, m2, by omega, by omega, by omega, q1, q2, q3, rfl, rfl⟩
          subst hA
          unfold TbH
          exact Sub_of [0, 1, 2, 3, 4] (by simp [sigOk, ndG]) (by simp) (by repeat' (first | exact trivial | exact fun _ => rfl | exact fun h => absurd h (by simp) | exact subC_ints rfl | refine And.intro ?_ ?_ | rfl | (simp [subH_nil, hLts, hLt, renCk, renC, sg, Ck.cells, R_ints_ren, R_ints_hLts]; done))) (by repeat' (first | exact trivial | exact .inr ⟨trivial, rfl⟩ | exact .inr ⟨by simp [vOk, hLt, hLts], rfl⟩ | refine And.intro ?_ ?_))
        · have hy1 := h
          (try simp only [natA hA, lssA hA, leqA hA, gtrA hA, geqA hA, eqlA hA, neqA hA, notA hA, beqA hA, decide_eq_true_eq, decide_eq_false_iff_not, beq_iff_eq, beq_eq_false_iff_ne, bne_iff_ne, bne_eq_false_iff_eq, Bool.not_eq_true', Bool.not_eq_false', ncast, Int.not_lt, Int.not_le, ne_eq, not_true_eq_false, not_false_eq_true, false_or, true_and] at hy1)
          (try rw [h]); clear h
          cbv
          (try simp only [ncast] at *)
          have hk : kept ps j := ⟨by rw [← hxp]; exact hnf, hyP.1 hy1⟩
          refine rdA hA (by omega) (by omega) fun x2 hx2 => ?_
          rw [show 0 + i.toNat = j by omega, ← hx] at hx2
          obtain rfl : x = x2 := hx2.symm
          cbv
          (try simp only [ncast] at *)
          refine rdA hA (by omega) (by omega) fun z hz2 => ?_
          rw [show 0 + i.toNat = j by omega] at hz2
          cbv
          (try simp only [ncast] at *)
          refine hk_mput hE mapL keyL (h := 3) (m := m2) (key := [x, z]) _ _ _ rfl rfl rfl rfl rfl rfl fun m' hm' => ?_
          cbv
          (try simp only [ncast] at *)
          have q1 := ClP_keep hP (by omega) (.inl hk)
          have q3 : ∀ k, LeastQ ps es (kept ps) (j - 1) k (m' k) := Least_put hM (by omega) hj2 hk (by rw [hxp, hz2]) hi hm'
          simp only [e2]
          subst hag
          refine ⟨j - 1, ⟨[(0, .ptr 0 0), (2, .lst 4 8192), (5, .int .i64 (i - 1))], TbH A ps2 es m' last u2 ++ [.lst 5 1 (A.ints .u8 hs)]⟩, by omega, ?_, i - 1, u2, j - 1, ps2, m', by omega, by omega, by omega, q1, hu, q3, rfl, rfl⟩
          subst hA
          unfold TbH
          exact Sub_of [0, 1, 2, 3, 4] (by simp [sigOk, ndG]) (by simp) (by repeat' (first | exact trivial | exact fun _ => rfl | exact fun h => absurd h (by simp) | exact subC_ints rfl | refine And.intro ?_ ?_ | rfl | (simp [subH_nil, hLts, hLt, renCk, renC, sg, Ck.cells, R_ints_ren, R_ints_hLts]; done))) (by repeat' (first | exact trivial | exact .inr ⟨trivial, rfl⟩ | exact .inr ⟨by simp [vOk, hLt, hLts], rfl⟩ | refine And.intro ?_ ?_))
    · have hle := h
      (try simp only [natA hA, lssA hA, leqA hA, gtrA hA, geqA hA, eqlA hA, neqA hA, notA hA, beqA hA, decide_eq_true_eq, decide_eq_false_iff_not, beq_iff_eq, beq_eq_false_iff_ne, bne_iff_ne, bne_eq_false_iff_eq, Bool.not_eq_true', Bool.not_eq_false', ncast, Int.not_lt, Int.not_le, ne_eq, not_true_eq_false, not_false_eq_true, false_or, true_and] at hle)
      (try rw [h]); clear h
      cbv
      (try simp only [ncast] at *)
      subst hA hq
      have hj3 : j = 256 := by omega
      subst hj3
      refine Fin_of ⟨[], TbH R ps2 es m2 256 u2⟩ ?_ ⟨ps2, m2, u2, ⟨hP, hu, hM⟩, rfl, rfl⟩
      unfold TbH
      exact Sub_of [0, 1, 2, 3] (by simp [sigOk, ndG]) (by simp) (by repeat' (first | exact trivial | exact fun _ => rfl | exact fun h => absurd h (by simp) | exact subC_ints rfl | refine And.intro ?_ ?_ | rfl | (simp [subH_nil, hLts, hLt, renCk, renC, sg, Ck.cells, R_ints_ren, R_ints_hLts]; done))) (by repeat' (first | exact trivial | exact .inr ⟨trivial, rfl⟩ | exact .inr ⟨by simp [vOk, hLt, hLts], rfl⟩ | refine And.intro ?_ ?_))
end Go.Sx

/- lzw: a code's string. -/
set_option maxRecDepth 100000
set_option maxHeartbeats 4000000
set_option linter.unusedVariables false
set_option linter.unusedSimpArgs false
namespace Go.Sx
open Go.Proofs.Try

/-- Turned up to i from both ends. -/
def RvQ (xs ys : List Int) (i : Nat) : Prop := ys.length = xs.length ∧ ∀ q, q < xs.length → ys.getD q 0 = if q < i ∨ xs.length - 1 - i < q then xs.getD (xs.length - 1 - q) 0 else xs.getD q 0
theorem RvQ_end {xs ys : List Int} {i : Nat} (h : RvQ xs ys i) (hi : xs.length ≤ 2 * i + 1) (hi2 : 2 * i ≤ xs.length) : ys = xs.reverse := by
  refine List.ext_getElem (by rw [h.1, List.length_reverse]) fun q h1 h2 => ?_
  have h3 : q < xs.length := by rw [← h.1]; exact h1
  have := h.2 q h3
  rw [List.getElem_reverse]
  have e1 : ys.getD q 0 = ys[q] := by simp [List.getD, h1]
  have e2 : xs.getD (xs.length - 1 - q) 0 = xs[xs.length - 1 - q] := by simp only [List.getD, List.getElem?_eq_getElem (show xs.length - 1 - q < xs.length by omega), Option.getD_some]
  rw [← e1, this, ← e2]
  by_cases hc : q < i ∨ xs.length - 1 - i < q
  · rw [if_pos hc]
  · rw [if_neg hc, show xs.length - 1 - q = q by omega]
theorem RvQ_step {xs ys : List Int} {i : Nat} (h : RvQ xs ys i) (hi : 2 * i + 1 < xs.length) : RvQ xs ((ys.set i (ys.getD (xs.length - 1 - i) 0)).set (xs.length - 1 - i) (ys.getD i 0)) (i + 1) := by
  have hl := h.1
  refine ⟨by rw [List.length_set, List.length_set]; exact h.1, fun q hq => ?_⟩
  have a1 := h.2 i (by omega)
  have a2 := h.2 (xs.length - 1 - i) (by omega)
  rw [if_neg (by omega)] at a1 a2
  have a3 := h.2 q hq
  rw [List.getD, List.getElem?_set]
  by_cases hq1 : xs.length - 1 - i = q
  · rw [if_pos hq1, if_pos (by rw [List.length_set]; omega), if_pos (by omega)]
    show ys.getD i 0 = _
    rw [a1, ← hq1, show xs.length - 1 - (xs.length - 1 - i) = i by omega]
  · rw [if_neg hq1, List.getElem?_set]
    by_cases hq2 : i = q
    · rw [if_pos hq2, if_pos (by omega), if_pos (by omega)]
      show ys.getD (xs.length - 1 - i) 0 = _
      rw [a2, hq2]
    · rw [if_neg hq2, ← List.getD, a3]
      by_cases hc : q < i ∨ xs.length - 1 - i < q
      · rw [if_pos hc, if_pos (by omega)]
      · rw [if_neg hc, if_neg (by omega)]

theorem s_rev (xs : List Int) (n : Nat) (hn : n = xs.length) (hl : xs.length ≤ 1000000000000) : Spec prog 64 [.lst 0 n] [.lst 5 1 (R.ints .u8 xs)] (fun r H => r = .tup [] ∧ H = [.lst 5 1 (R.ints .u8 xs.reverse)]) := by
  refine Spec_of_kX (D := fun i => if i = 3 then (16, [0,1007011,2000000]) else (0, [])) (ks := [0, 2, 3]) tok mixed (fn := f64) rfl rfl rfl (by kernel_rfl) (N := 28) rfl (rs := []) rfl (Nat.le_of_ble_eq_true rfl) fun A C Kp E ag L q hA hC hK hE hag hL hq => ?_
  rw [← hA]
  cbv
  have e0 : A.bin .sub .i64 (A.nat n) 1 = (n : Int) - 1 := by rw [subA' hA, natA hA, wrap64 (by omega)]
  obtain ⟨z0, hz0⟩ : ∃ z0, z0 = (n : Int) - 1 := ⟨_, rfl⟩
  rw [← hz0] at e0
  simp only [e0]
  rw [hL]
  refine loop_keep (fun kk s => ∃ (i z : Int) (j : Nat) (ys : List Int), i = (j : Int) ∧ z = (n : Int) - (i + 1) ∧ 2 * j ≤ xs.length ∧ RvQ xs ys j ∧ kk = xs.length - j ∧ s = ⟨[(0, .lst 0 n), (2, .int .i64 i), (3, .int .i64 z)], [.lst 5 1 (A.ints .u8 ys)]⟩)
    [0, 2, 3] xs.length ⟨0, z0, 0, xs, rfl, by omega, by omega, ⟨rfl, fun q hq => by rw [if_neg (by omega)]⟩, by omega, rfl⟩ ?_
  rintro kk _ ⟨i, z, j, ys, hi, hz, hj, hQ, hkk, rfl⟩
  have hyl := hQ.1
  cbv
  (try simp only [ncast] at *)
  refine ifB_intro (fun h => ?_) (fun h => ?_)
  · have hlt := h
    (try simp only [natA hA, lssA hA, leqA hA, gtrA hA, geqA hA, eqlA hA, neqA hA, notA hA, beqA hA, decide_eq_true_eq, decide_eq_false_iff_not, beq_iff_eq, beq_eq_false_iff_ne, bne_iff_ne, bne_eq_false_iff_eq, Bool.not_eq_true', Bool.not_eq_false', ncast, Int.not_lt, Int.not_le, ne_eq, not_true_eq_false, not_false_eq_true, false_or, true_and] at hlt)
    (try rw [h]); clear h
    cbv
    (try simp only [ncast] at *)
    obtain ⟨zs, hzs⟩ : ∃ zs, zs = (ys.set j (ys.getD (xs.length - 1 - j) 0)).set (xs.length - 1 - j) (ys.getD j 0) := ⟨_, rfl⟩
    have hQ2 : RvQ xs zs (j + 1) := by rw [hzs]; exact RvQ_step hQ (by omega)
    have e2 : A.bin .add .i64 i 1 = i + 1 := by rw [addA hA, wrap64 (by omega)]
    have e3 : A.bin .sub .i64 z 1 = z - 1 := by rw [subA' hA, wrap64 (by omega)]
    refine ⟨⟨[[0,1,2,3,4,5,6,7,8,9,10,11,12,13,14,15],[0,1,2,3,4,5,6,8,9,10,11,7,12,13,14,15]], by kernel_rfl, fun F hF => ?_⟩⟩
    have h3 : F ⟨[(0, .lst 0 n), (2, .int .i64 i), (3, .int .i64 z)], [.lst 5 1 (A.ints .u8 zs)]⟩ := by
      refine hF _ ?_
      clear hF
      cbv
      (try simp only [ncast] at *)
      simp only [e2, e3]
      subst hag
      refine ⟨xs.length - (j + 1), ⟨[(0, .lst 0 n), (2, .int .i64 (i + 1)), (3, .int .i64 (z - 1))], [.lst 5 1 (A.ints .u8 zs)]⟩, by omega, ?_, i + 1, z - 1, j + 1, zs, by omega, by omega, by omega, hQ2, rfl, rfl⟩
      subst hA
      exact Sub_of [0] (by simp [sigOk, ndG]) (by simp) (by repeat' (first | exact trivial | exact fun _ => rfl | exact fun h => absurd h (by simp) | exact subC_ints rfl | refine And.intro ?_ ?_ | rfl | (simp [subH_nil, hLts, hLt, renCk, renC, sg, Ck.cells, R_ints_ren, R_ints_hLts]; done))) (by repeat' (first | exact trivial | exact .inr ⟨trivial, rfl⟩ | exact .inr ⟨by simp [vOk, hLt, hLts], rfl⟩ | refine And.intro ?_ ?_))
    clear hF
    cbv
    (try simp only [ncast] at *)
    refine ⟨?_, ?_, trivial⟩
    · refine rdA hA (by omega) (by omega) fun a ha => ?_
      cbv
      (try simp only [ncast] at *)
      refine rdA hA (by omega) (by omega) fun b hb => ?_
      cbv
      (try simp only [ncast] at *)
      refine wrA hA (by omega) (by omega) fun u1 hu1 => ?_
      cbv
      (try simp only [ncast] at *)
      have hul : u1.length = ys.length := by rw [hu1, List.length_set]
      refine wrA hA (by omega) (by omega) fun u2 hu2 => ?_
      cbv
      (try simp only [ncast] at *)
      rw [show 0 + i.toNat = j by omega] at hu1 hb
      rw [show 0 + z.toNat = xs.length - 1 - j by omega] at hu2 ha
      have he : u2 = zs := by rw [hu2, hu1, ha, hb, hzs]
      subst he
      subst hA hag
      refine ⟨0, _, Nat.zero_lt_one, ?_, h3⟩
      exact Sub_of [0] (by simp [sigOk, ndG]) (by simp) (by repeat' (first | exact trivial | exact fun _ => rfl | exact fun h => absurd h (by simp) | exact subC_ints rfl | refine And.intro ?_ ?_ | rfl | (simp [subH_nil, hLts, hLt, renCk, renC, sg, Ck.cells, R_ints_ren, R_ints_hLts]; done))) (by repeat' (first | exact trivial | exact .inr ⟨trivial, rfl⟩ | exact .inr ⟨by simp [vOk, hLt, hLts], rfl⟩ | refine And.intro ?_ ?_))
    · have hin : A.inr z n := by rw [inrA hA]; omega
      refine ⟨hin, ?_⟩
      refine rdA hA (by omega) (by omega) fun b hb => ?_
      cbv
      (try simp only [ncast] at *)
      refine rdA' hA (by omega) fun a ha => ?_
      cbv
      (try simp only [ncast] at *)
      refine wrA hA (by omega) (by omega) fun u1 hu1 => ?_
      cbv
      (try simp only [ncast] at *)
      have hul : u1.length = ys.length := by rw [hu1, List.length_set]
      refine wrA hA (by omega) (by omega) fun u2 hu2 => ?_
      cbv
      (try simp only [ncast] at *)
      rw [show 0 + i.toNat = j by omega] at hu1 hb
      rw [show 0 + z.toNat = xs.length - 1 - j by omega] at hu2 ha
      have he : u2 = zs := by rw [hu2, hu1, ha, hb, hzs]
      subst he
      subst hA hag
      refine ⟨0, _, Nat.zero_lt_one, ?_, h3⟩
      exact Sub_of [0] (by simp [sigOk, ndG]) (by simp) (by repeat' (first | exact trivial | exact fun _ => rfl | exact fun h => absurd h (by simp) | exact subC_ints rfl | refine And.intro ?_ ?_ | rfl | (simp [subH_nil, hLts, hLt, renCk, renC, sg, Ck.cells, R_ints_ren, R_ints_hLts]; done))) (by repeat' (first | exact trivial | exact .inr ⟨trivial, rfl⟩ | exact .inr ⟨by simp [vOk, hLt, hLts], rfl⟩ | refine And.intro ?_ ?_))
  · have hge := h
    (try simp only [natA hA, lssA hA, leqA hA, gtrA hA, geqA hA, eqlA hA, neqA hA, notA hA, beqA hA, decide_eq_true_eq, decide_eq_false_iff_not, beq_iff_eq, beq_eq_false_iff_ne, bne_iff_ne, bne_eq_false_iff_eq, Bool.not_eq_true', Bool.not_eq_false', ncast, Int.not_lt, Int.not_le, ne_eq, not_true_eq_false, not_false_eq_true, false_or, true_and] at hge)
    (try rw [h]); clear h
    cbv
    (try simp only [ncast] at *)
    have hre := RvQ_end hQ (by omega) hj
    subst hA hq
    exact ⟨rfl, by rw [hre]⟩
end Go.Sx

/- lzw: Text. -/
set_option maxRecDepth 100000
set_option maxHeartbeats 4000000
set_option linter.unusedVariables false
set_option linter.unusedSimpArgs false
namespace Go.Sx
open Go.Proofs.Try

/-- A code's string, over so many codes. -/
def txt (ps es : List Int) : Nat → Int → Option (List Int)
  | 0, _ => none
  | k + 1, code => if code < 0 ∨ 8192 ≤ code ∨ code = 256 then none else if code < 256 then some [code] else (txt ps es k (ps.getD code.toNat 0)).map fun t => t ++ [es.getD code.toNat 0]
def TxQ (ps es : List Int) (code : Int) (t : List Int) (b : Bool) : Prop := (txt ps es 8192 code = some t ∧ b = true) ∨ (txt ps es 8192 code = none ∧ b = false ∧ t = [])
theorem txt_len {ps es : List Int} : ∀ (k : Nat) {code : Int} {t : List Int}, txt ps es k code = some t → t.length ≤ k
  | 0, code, t, h => by cases h
  | k + 1, code, t, h => by
    unfold txt at h
    split at h
    · cases h
    · split at h
      · cases h; simp
      · cases hk : txt ps es k (ps.getD code.toNat 0) with
        | none => rw [hk] at h; cases h
        | some u =>
          rw [hk] at h
          cases h
          have := txt_len k hk
          simp; omega

section
variable {A : Ar} {C : CallT} {s : St} {κ : List Nat → SV → List Ck → Prop}
theorem call_rev (hC : C = CallX prog) (hA : A = R) {xs : List Int} {h n : Nat} (hn : n = xs.length) (hl : xs.length ≤ 1000000000000) (k : s.H[h]? = some (.lst 5 1 (A.ints .u8 xs))) (hk : ∀ zs, zs = xs.reverse → κ [h] (.tup []) (set1 s.H h (.lst 5 1 (A.ints .u8 zs)))) : C 64 [.lst h n] s κ := by
  have hS := s_rev xs n hn hl
  rw [← hA] at hS
  refine cal_of hC hS [(h, 0, true)] ⟨by simp, trivial⟩ ⟨rfl, hLtsA hA .., zOksA hA .., ?_, trivial⟩ ⟨⟨(show 0 < 1 by omega), rfl, rfl⟩, trivial⟩ ?_
  · rw [renCk, renA hA]; exact k
  rintro _ _ ⟨rfl, rfl⟩
  refine ⟨[h], .tup [], s.H.set h (.lst 5 1 (A.ints .u8 xs.reverse)), rfl, rfl, ?_, ?_⟩
  · simp only [backH, List.map_cons, List.map_nil, renCk, renA hA, setAll, List.length_cons, List.length_nil, List.drop_succ_cons, List.drop_zero, List.append_nil]
  · have := hk _ rfl
    rw [set1_eq] at this
    exact this
end

theorem s_ztext (ps es : List Int) (last used code : Int) (hT : ZT ps es last used) : Spec prog 51 [.ptr 0 0, .int .i64 code] (VH R ps es last used)
    (fun r H => ∃ (t : List Int) (b : Bool) (k : Nat), TxQ ps es code t b ∧ k = t.length ∧ r = .tup [.lst 4 k, .bool b] ∧ H = VH R ps es last used ++ [.lst 5 1 (R.ints .u8 t)]) := by
  refine Spec_of_kF (D := fun i => (0, [])) (ks := [0, 1, 4, 5, 6, 7]) tok mixed (fn := f51) rfl rfl rfl (by kernel_rfl) (N := 54) rfl (rs := [.tmp 4, .tmp 5]) rfl (Nat.le_of_ble_eq_true rfl) fun A C Kp E ag L q hA hC hK hE hag hL hq => ?_
  rw [← hA]
  cbv
  refine call_zok hC hA hT (TV.vws hA hT rfl rfl rfl rfl) ?_
  cbv
  have hnt : A.not true = false := by rw [notA hA]; rfl
  simp only [hnt]
  cbv
  have hpl := hT.pl
  have hel := hT.el
  rw [hL]
  refine ⟨fun kk s => ∃ (i c : Int) (j k : Nat) (acc : List Int), i = (j : Int) ∧ j ≤ 8192 ∧ acc.length = j ∧ k = j ∧ txt ps es 8192 code = (txt ps es (8192 - j) c).map (fun t => t ++ acc.reverse) ∧ kk = 8192 - j ∧
      s = ⟨[(0, .ptr 0 0), (1, .int .i64 c), (6, .lst 4 k), (7, .int .i64 i)], VH A ps es last used ++ [.lst 5 1 (A.ints .u8 acc)]⟩,
    ⟨8192, ⟨[(0, .ptr 0 0), (1, .int .i64 code), (6, .lst 4 0), (7, .int .i64 0)], VH A ps es last used ++ [.lst 5 1 (A.ints .u8 [])]⟩, ?_, 0, code, 0, 0, [], rfl, by omega, rfl, rfl, ?_, rfl, rfl⟩, ?_⟩
  · subst hA
    refine (Sub_nilT (i := 6) 5 1 rfl).trans ?_
    unfold VH
    exact Sub_of [0, 1, 2, 3, 4] (by simp [sigOk, ndG]) (by simp) (by repeat' (first | exact trivial | exact fun _ => rfl | exact fun h => absurd h (by simp) | exact subC_ints rfl | refine And.intro ?_ ?_ | rfl | (simp [subH_nil, hLts, hLt, renCk, renC, sg, Ck.cells, R_ints_ren, R_ints_hLts]; done))) (by repeat' (first | exact trivial | exact .inr ⟨trivial, rfl⟩ | exact .inr ⟨by simp [vOk, hLt, hLts], rfl⟩ | refine And.intro ?_ ?_))
  · cases txt ps es 8192 code with
    | none => rfl
    | some t => simp
  rintro kk _ ⟨i, c, j, k, acc, hi, hj, hal, hkj, htx, hkk, rfl⟩
  cbv
  (try simp only [ncast] at *)
  refine ifB_intro (fun h => ?_) (fun h => ?_)
  · have h1 := h
    (try simp only [natA hA, lssA hA, leqA hA, gtrA hA, geqA hA, eqlA hA, neqA hA, notA hA, beqA hA, decide_eq_true_eq, decide_eq_false_iff_not, beq_iff_eq, beq_eq_false_iff_ne, bne_iff_ne, bne_eq_false_iff_eq, Bool.not_eq_true', Bool.not_eq_false', ncast, Int.not_lt, Int.not_le, ne_eq, not_true_eq_false, not_false_eq_true, false_or, true_and] at h1)
    (try rw [h]); clear h
    cbv
    (try simp only [ncast] at *)
    have hm : 8192 - j = (8192 - (j + 1)) + 1 := by omega
    refine ifB_intro (fun h => ?_) (fun h => ?_)
    · have h2 := h
      (try simp only [natA hA, lssA hA, leqA hA, gtrA hA, geqA hA, eqlA hA, neqA hA, notA hA, beqA hA, decide_eq_true_eq, decide_eq_false_iff_not, beq_iff_eq, beq_eq_false_iff_ne, bne_iff_ne, bne_eq_false_iff_eq, Bool.not_eq_true', Bool.not_eq_false', ncast, Int.not_lt, Int.not_le, ne_eq, not_true_eq_false, not_false_eq_true, false_or, true_and] at h2)
      (try rw [h]); clear h
      cbv
      (try simp only [ncast] at *)
      refine ifB_intro (fun h => ?_) (fun h => ?_)
      · have h3 := h
        (try simp only [natA hA, lssA hA, leqA hA, gtrA hA, geqA hA, eqlA hA, neqA hA, notA hA, beqA hA, decide_eq_true_eq, decide_eq_false_iff_not, beq_iff_eq, beq_eq_false_iff_ne, bne_iff_ne, bne_eq_false_iff_eq, Bool.not_eq_true', Bool.not_eq_false', ncast, Int.not_lt, Int.not_le, ne_eq, not_true_eq_false, not_false_eq_true, false_or, true_and] at h3)
        (try rw [h]); clear h
        cbv
        (try simp only [ncast] at *)
        refine ifB_intro (fun h => ?_) (fun h => ?_)
        · have h4 := h
          (try simp only [natA hA, lssA hA, leqA hA, gtrA hA, geqA hA, eqlA hA, neqA hA, notA hA, beqA hA, decide_eq_true_eq, decide_eq_false_iff_not, beq_iff_eq, beq_eq_false_iff_ne, bne_iff_ne, bne_eq_false_iff_eq, Bool.not_eq_true', Bool.not_eq_false', ncast, Int.not_lt, Int.not_le, ne_eq, not_true_eq_false, not_false_eq_true, false_or, true_and] at h4)
          (try rw [h]); clear h
          cbv
          (try simp only [ncast] at *)
          refine ifB_intro (fun h => ?_) (fun h => ?_)
          · have h5 := h
            (try simp only [natA hA, lssA hA, leqA hA, gtrA hA, geqA hA, eqlA hA, neqA hA, notA hA, beqA hA, decide_eq_true_eq, decide_eq_false_iff_not, beq_iff_eq, beq_eq_false_iff_ne, bne_iff_ne, bne_eq_false_iff_eq, Bool.not_eq_true', Bool.not_eq_false', ncast, Int.not_lt, Int.not_le, ne_eq, not_true_eq_false, not_false_eq_true, false_or, true_and] at h5)
            (try rw [h]); clear h
            cbv
            (try simp only [ncast] at *)
            have hw : A.wrap .u8 c = c := by rw [wrapA hA, Go.IntKind.wrap_u8]; omega
            simp only [hw]
            have ha := apdA1 hA .u8 acc c
            have ek : A.add k 1 = k + 1 := by subst hA; rfl
            have hal2 : (acc ++ [c]).length = k + 1 := by simp; omega
            refine ⟨?_, ?_, ?_⟩
            · subst hA
              show (R.ints .u8 acc).length = k * 1
              rw [R_ints_length]; omega
            · subst hA
              show (k + 1) * 1 ≤ room
              unfold room; omega
            simp only [ek]
            cbv
            (try simp only [ncast] at *)
            refine call_rev hC hA (xs := acc ++ [c]) (h := 6) hal2.symm (by omega) (congrArg (fun l => some (Ck.lst _ _ l)) ha) fun zs hzs => ?_
            have hzl : zs.length = k + 1 := by rw [hzs, List.length_reverse]; exact hal2
            have htz : txt ps es 8192 code = some zs := by
              rw [htx, hm, txt, if_neg (by omega), if_pos h5, hzs, List.reverse_append]
              rfl
            clear hzs hal2
            cbv
            (try simp only [ncast] at *)
            subst hA hq
            refine Fin_of ⟨[(4, .lst 4 (k + 1)), (5, .bool true)], VH R ps es last used ++ [.lst 5 1 (R.ints .u8 zs)]⟩ ?_ ⟨zs, true, k + 1, .inl ⟨htz, rfl⟩, hzl.symm, rfl, rfl⟩
            unfold VH
            exact Sub_of [0, 1, 2, 3, 6] (by simp [sigOk, ndG]) (by simp) (by repeat' (first | exact trivial | exact fun _ => rfl | exact fun h => absurd h (by simp) | exact subC_ints rfl | refine And.intro ?_ ?_ | rfl | (simp [subH_nil, hLts, hLt, renCk, renC, sg, Ck.cells, R_ints_ren, R_ints_hLts]; done))) (by repeat' (first | exact trivial | exact .inr ⟨trivial, rfl⟩ | exact .inr ⟨by simp [vOk, hLt, hLts], rfl⟩ | refine And.intro ?_ ?_))
          · have h5 := h
            (try simp only [natA hA, lssA hA, leqA hA, gtrA hA, geqA hA, eqlA hA, neqA hA, notA hA, beqA hA, decide_eq_true_eq, decide_eq_false_iff_not, beq_iff_eq, beq_eq_false_iff_ne, bne_iff_ne, bne_eq_false_iff_eq, Bool.not_eq_true', Bool.not_eq_false', ncast, Int.not_lt, Int.not_le, ne_eq, not_true_eq_false, not_false_eq_true, false_or, true_and] at h5)
            (try rw [h]); clear h
            cbv
            (try simp only [ncast] at *)
            refine rdA hA (by omega) (by omega) fun y hy => ?_
            rw [show 0 + c.toNat = c.toNat by omega] at hy
            cbv
            (try simp only [ncast] at *)
            have ha := apdA1 hA .u8 acc y
            refine ⟨?_, ?_, ?_⟩
            · subst hA
              show (R.ints .u8 acc).length = k * 1
              rw [R_ints_length]; omega
            · subst hA
              show (k + 1) * 1 ≤ room
              unfold room; omega
            cbv
            (try simp only [ncast] at *)
            refine rdA hA (by omega) (by omega) fun x hx => ?_
            rw [show 0 + c.toNat = c.toNat by omega] at hx
            cbv
            (try simp only [ncast] at *)
            have ek : A.add k 1 = k + 1 := by subst hA; rfl
            have e2 : A.bin .add .i64 i 1 = i + 1 := by rw [addA hA, wrap64 (by omega)]
            simp only [e2, ek]
            subst hag
            refine ⟨8192 - (j + 1), ⟨[(0, .ptr 0 0), (1, .int .i64 x), (6, .lst 4 (k + 1)), (7, .int .i64 (i + 1))], VH A ps es last used ++ [.lst 5 1 (A.ints .u8 (acc ++ [y]))]⟩, by omega, ?_, i + 1, x, j + 1, k + 1, acc ++ [y], by omega, by omega, by simp; omega, by omega, ?_, rfl, rfl⟩
            · subst hA
              unfold VH
              exact Sub_of [0, 1, 2, 3, 6] (by simp [sigOk, ndG]) (by simp) (by repeat' (first | exact trivial | exact fun _ => rfl | exact fun h => absurd h (by simp) | exact subC_ints rfl | exact subC_ints (congrArg (fun l => some (Ck.lst _ _ l)) ha) | refine And.intro ?_ ?_ | rfl | (simp [subH_nil, hLts, hLt, renCk, renC, sg, Ck.cells, R_ints_ren, R_ints_hLts, ha]; done))) (by repeat' (first | exact trivial | exact .inr ⟨trivial, rfl⟩ | exact .inr ⟨by simp [vOk, hLt, hLts, ha], rfl⟩ | refine And.intro ?_ ?_))
            · rw [htx, hm, txt, if_neg (by omega), if_neg (by omega), ← hx, ← hy]
              cases txt ps es (8192 - (j + 1)) x with
              | none => rfl
              | some t => simp
        · have h4 := h
          (try simp only [natA hA, lssA hA, leqA hA, gtrA hA, geqA hA, eqlA hA, neqA hA, notA hA, beqA hA, decide_eq_true_eq, decide_eq_false_iff_not, beq_iff_eq, beq_eq_false_iff_ne, bne_iff_ne, bne_eq_false_iff_eq, Bool.not_eq_true', Bool.not_eq_false', ncast, Int.not_lt, Int.not_le, ne_eq, not_true_eq_false, not_false_eq_true, false_or, true_and] at h4)
          (try rw [h]); clear h
          cbv
          (try simp only [ncast] at *)
          subst hA hq
          have hn : txt ps es (8192 - j) c = none := by
            cases hm : 8192 - j with
            | zero => rfl
            | succ m => rw [txt, if_pos (by omega)]
          rw [hn] at htx
          refine Fin_of ⟨[(4, .lst 4 0), (5, .bool false)], VH R ps es last used ++ [.lst 5 1 (R.ints .u8 [])]⟩ ((Sub_nilT (i := 4) 5 1 rfl).trans ?_) ⟨[], false, 0, .inr ⟨htx, rfl, rfl⟩, rfl, rfl, rfl⟩
          unfold VH
          exact Sub_of [0, 1, 2, 3, 5] (by simp [sigOk, ndG]) (by simp) (by repeat' (first | exact trivial | exact fun _ => rfl | exact fun h => absurd h (by simp) | exact subC_ints rfl | refine And.intro ?_ ?_ | rfl | (simp [subH_nil, hLts, hLt, renCk, renC, sg, Ck.cells, R_ints_ren, R_ints_hLts]; done))) (by repeat' (first | exact trivial | exact .inr ⟨trivial, rfl⟩ | exact .inr ⟨by simp [vOk, hLt, hLts], rfl⟩ | refine And.intro ?_ ?_))
      · have h3 := h
        (try simp only [natA hA, lssA hA, leqA hA, gtrA hA, geqA hA, eqlA hA, neqA hA, notA hA, beqA hA, decide_eq_true_eq, decide_eq_false_iff_not, beq_iff_eq, beq_eq_false_iff_ne, bne_iff_ne, bne_eq_false_iff_eq, Bool.not_eq_true', Bool.not_eq_false', ncast, Int.not_lt, Int.not_le, ne_eq, not_true_eq_false, not_false_eq_true, false_or, true_and] at h3)
        (try rw [h]); clear h
        cbv
        (try simp only [ncast] at *)
        subst hA hq
        have hn : txt ps es (8192 - j) c = none := by
          cases hm : 8192 - j with
          | zero => rfl
          | succ m => rw [txt, if_pos (by omega)]
        rw [hn] at htx
        refine Fin_of ⟨[(4, .lst 4 0), (5, .bool false)], VH R ps es last used ++ [.lst 5 1 (R.ints .u8 [])]⟩ ((Sub_nilT (i := 4) 5 1 rfl).trans ?_) ⟨[], false, 0, .inr ⟨htx, rfl, rfl⟩, rfl, rfl, rfl⟩
        unfold VH
        exact Sub_of [0, 1, 2, 3, 5] (by simp [sigOk, ndG]) (by simp) (by repeat' (first | exact trivial | exact fun _ => rfl | exact fun h => absurd h (by simp) | exact subC_ints rfl | refine And.intro ?_ ?_ | rfl | (simp [subH_nil, hLts, hLt, renCk, renC, sg, Ck.cells, R_ints_ren, R_ints_hLts]; done))) (by repeat' (first | exact trivial | exact .inr ⟨trivial, rfl⟩ | exact .inr ⟨by simp [vOk, hLt, hLts], rfl⟩ | refine And.intro ?_ ?_))
    · have h2 := h
      (try simp only [natA hA, lssA hA, leqA hA, gtrA hA, geqA hA, eqlA hA, neqA hA, notA hA, beqA hA, decide_eq_true_eq, decide_eq_false_iff_not, beq_iff_eq, beq_eq_false_iff_ne, bne_iff_ne, bne_eq_false_iff_eq, Bool.not_eq_true', Bool.not_eq_false', ncast, Int.not_lt, Int.not_le, ne_eq, not_true_eq_false, not_false_eq_true, false_or, true_and] at h2)
      (try rw [h]); clear h
      cbv
      (try simp only [ncast] at *)
      subst hA hq
      have hn : txt ps es (8192 - j) c = none := by
        cases hm : 8192 - j with
        | zero => rfl
        | succ m => rw [txt, if_pos (by omega)]
      rw [hn] at htx
      refine Fin_of ⟨[(4, .lst 4 0), (5, .bool false)], VH R ps es last used ++ [.lst 5 1 (R.ints .u8 [])]⟩ ((Sub_nilT (i := 4) 5 1 rfl).trans ?_) ⟨[], false, 0, .inr ⟨htx, rfl, rfl⟩, rfl, rfl, rfl⟩
      unfold VH
      exact Sub_of [0, 1, 2, 3, 5] (by simp [sigOk, ndG]) (by simp) (by repeat' (first | exact trivial | exact fun _ => rfl | exact fun h => absurd h (by simp) | exact subC_ints rfl | refine And.intro ?_ ?_ | rfl | (simp [subH_nil, hLts, hLt, renCk, renC, sg, Ck.cells, R_ints_ren, R_ints_hLts]; done))) (by repeat' (first | exact trivial | exact .inr ⟨trivial, rfl⟩ | exact .inr ⟨by simp [vOk, hLt, hLts], rfl⟩ | refine And.intro ?_ ?_))
  · have h1 := h
    (try simp only [natA hA, lssA hA, leqA hA, gtrA hA, geqA hA, eqlA hA, neqA hA, notA hA, beqA hA, decide_eq_true_eq, decide_eq_false_iff_not, beq_iff_eq, beq_eq_false_iff_ne, bne_iff_ne, bne_eq_false_iff_eq, Bool.not_eq_true', Bool.not_eq_false', ncast, Int.not_lt, Int.not_le, ne_eq, not_true_eq_false, not_false_eq_true, false_or, true_and] at h1)
    (try rw [h]); clear h
    cbv
    (try simp only [ncast] at *)
    subst hA hq
    have hn : txt ps es (8192 - j) c = none := by
      cases hm : 8192 - j with
      | zero => rfl
      | succ m => rw [txt, if_pos (by omega)]
    rw [hn] at htx
    refine Fin_of ⟨[(4, .lst 4 0), (5, .bool false)], VH R ps es last used ++ [.lst 5 1 (R.ints .u8 [])]⟩ ((Sub_nilT (i := 4) 5 1 rfl).trans ?_) ⟨[], false, 0, .inr ⟨htx, rfl, rfl⟩, rfl, rfl, rfl⟩
    unfold VH
    exact Sub_of [0, 1, 2, 3, 5] (by simp [sigOk, ndG]) (by simp) (by repeat' (first | exact trivial | exact fun _ => rfl | exact fun h => absurd h (by simp) | exact subC_ints rfl | refine And.intro ?_ ?_ | rfl | (simp [subH_nil, hLts, hLt, renCk, renC, sg, Ck.cells, R_ints_ren, R_ints_hLts]; done))) (by repeat' (first | exact trivial | exact .inr ⟨trivial, rfl⟩ | exact .inr ⟨by simp [vOk, hLt, hLts], rfl⟩ | refine And.intro ?_ ?_))
end Go.Sx

/- lzw: plain laws: what a table is behind calls, which strings stay. -/
set_option maxRecDepth 100000
set_option maxHeartbeats 4000000
set_option linter.unusedVariables false
set_option linter.unusedSimpArgs false
namespace Go.Sx
open Go.Proofs.Try

structure ZI (ps es : List Int) (last used : Int) : Prop where
  zt : ZT ps es last used
  lo : ∀ q, q ≤ 256 → ps.getD q 0 = -1
  ct : used = cnt ps

theorem getD_set {l : List Int} {i q : Nat} {v : Int} (hi : i < l.length) : (l.set i v).getD q 0 = if i = q then v else l.getD q 0 := by
  rw [List.getD, List.getElem?_set]
  by_cases h : i = q
  · rw [if_pos h, if_pos (by omega), if_pos h]; rfl
  · rw [if_neg h, if_neg h, ← List.getD]

theorem ZI_new : ZI (List.replicate 8192 (-1)) (List.replicate 8192 0) 256 0 := by
  have hct : (0 : Int) = cnt (List.replicate 8192 (-1)) := by
    unfold cnt
    rw [List.countP_replicate]
    rfl
  refine ⟨⟨List.length_replicate, List.length_replicate, by omega, by omega, fun q hq => .inl (getD_rep _ hq), fun q => ?_⟩, fun q hq => getD_rep _ (by omega), hct⟩
  rw [List.getD, List.getElem?_replicate]
  split
  · exact ⟨by show (0 : Int) ≤ 0; omega, by show (0 : Int) ≤ 255; omega⟩
  · exact ⟨by show (0 : Int) ≤ 0; omega, by show (0 : Int) ≤ 255; omega⟩

theorem ZI_add {ps es ps' es' : List Int} {m m' : List Int → Option Int} {last used p c n last' used' : Int} (h : ZI ps es last used) (hc : 0 ≤ c ∧ c ≤ 255) (hQ : AddQ ps es m last used p c n ps' es' m' last' used') : ZI ps' es' last' used' := by
  rcases hQ with ⟨_, _, rfl, rfl, _, rfl, rfl⟩ | ⟨hn, h0, hp0, hp1, hp2, rfl, rfl, rfl, rfl, _⟩
  · exact h
  · have hpl := h.zt.pl
    have hel := h.zt.el
    have hla := h.zt.la
    rcases hn with ⟨h1, _⟩ | ⟨j, hj, h2, h3, h4, _⟩
    · omega
    have hnj : last'.toNat = j := by omega
    rw [hnj]
    have hct : used + 1 = cnt (ps.set j p) := by
      rw [cnt_set (by omega), if_pos h4, if_neg (by omega), h.ct]
      omega
    have hb := cnt_bnd (ps := ps.set j p) (by rw [List.length_set]; exact hpl)
    refine ⟨⟨by rw [List.length_set]; exact hpl, by rw [List.length_set]; exact hel, by omega, by omega, fun q hq => ?_, fun q => ?_⟩, fun q hq => ?_, hct⟩
    · rw [getD_set (by omega)]
      split
      · exact .inr (by omega)
      · exact h.zt.pr q hq
    · rw [getD_set (by omega)]
      split
      · exact hc
      · exact h.zt.er q
    · rw [getD_set (by omega), if_neg (by omega)]
      exact h.lo q hq

theorem ZI_clr {ps es ps' : List Int} {m' : List Int → Option Int} {last used used' : Int} (h : ZI ps es last used) (hQ : ClrQ ps es used ps' m' used') : ZI ps' es 256 used' := by
  obtain ⟨⟨h1, h2⟩, h3, h4⟩ := hQ
  have hb := cnt_bnd h1
  have hct : used' = cnt ps' := by have := h.ct; omega
  have key : ∀ q, q < 8192 → ps'.getD q 0 = ps.getD q 0 ∨ ps'.getD q 0 = -1 := fun q hq => by
    rcases Classical.em (kept ps q ∨ q ≤ 256) with hk | hk
    · exact .inl ((h2 q hq).1 hk)
    · exact .inr ((h2 q hq).2 hk)
  refine ⟨⟨h1, h.zt.el, by omega, by omega, fun q hq => ?_, h.zt.er⟩, fun q hq => ?_, hct⟩
  · rcases key q hq with hk | hk
    · rw [hk]; exact h.zt.pr q hq
    · exact .inl hk
  · rw [(h2 q (by omega)).1 (.inr hq)]
    exact h.lo q hq

/-! Strings -/
theorem txt_mono {ps es : List Int} : ∀ {k k' : Nat} {c : Int} {t : List Int}, k ≤ k' → txt ps es k c = some t → txt ps es k' c = some t
  | 0, _, _, _, _, h => by cases h
  | k + 1, 0, _, _, hk, _ => by omega
  | k + 1, k' + 1, c, t, hk, h => by
    rw [txt] at h ⊢
    split at h
    · cases h
    · rename_i h1
      rw [if_neg h1]
      split at h
      · rename_i h2; rw [if_pos h2]; exact h
      · rename_i h2
        rw [if_neg h2]
        cases hu : txt ps es k (ps.getD c.toNat 0) with
        | none => rw [hu] at h; cases h
        | some u => rw [txt_mono (by omega) hu]; rw [hu] at h; exact h
theorem txt_uniq {ps es : List Int} {k k' : Nat} {c : Int} {t t' : List Int} (h : txt ps es k c = some t) (h' : txt ps es k' c = some t') : t = t' := by
  have h1 := txt_mono (Nat.le_max_left k k') h
  have h2 := txt_mono (Nat.le_max_right k k') h'
  rw [h1] at h2
  cases h2
  rfl
theorem txt_fuel {ps es : List Int} : ∀ {k m : Nat} {c : Int} {t : List Int}, txt ps es k c = some t → t.length ≤ m → txt ps es m c = some t
  | 0, _, _, _, h, _ => by cases h
  | k + 1, 0, c, t, h, hm => by
    have : t = [] := List.length_eq_zero_iff.1 (by omega)
    subst this
    rw [txt] at h
    split at h
    · cases h
    · split at h
      · cases h
      · cases hu : txt ps es k (ps.getD c.toNat 0) with
        | none => rw [hu] at h; cases h
        | some u => rw [hu] at h; simp at h
  | k + 1, m + 1, c, t, h, hm => by
    rw [txt] at h ⊢
    split at h
    · cases h
    · rename_i h1
      rw [if_neg h1]
      split at h
      · rename_i h2; rw [if_pos h2]; exact h
      · rename_i h2
        rw [if_neg h2]
        cases hu : txt ps es k (ps.getD c.toNat 0) with
        | none => rw [hu] at h; cases h
        | some u =>
          rw [hu] at h
          cases h
          rw [txt_fuel (m := m) hu (by simp at hm; omega)]
          rfl
theorem pig (a : Nat) : ∀ (N : Nat) (L : List Nat), L.Nodup → (∀ x ∈ L, a ≤ x ∧ x < a + N) → L.length ≤ N
  | 0, L, _, h => by
    cases L with
    | nil => simp
    | cons x L => have := h x (by simp); omega
  | N + 1, L, hn, h => by
    have h1 := pig a N (L.erase (a + N)) (hn.erase _) fun x hx => by
      have h2 := (hn.mem_erase_iff).1 hx
      have := h x h2.2
      omega
    by_cases hm : a + N ∈ L
    · rw [List.length_erase_of_mem hm] at h1
      omega
    · rw [List.erase_of_not_mem hm] at h1
      omega
/-- The codes of a string's way. -/
def way (ps : List Int) : Nat → Int → List Nat
  | 0, _ => []
  | k + 1, c => if c < 256 then [] else c.toNat :: way ps k (ps.getD c.toNat 0)
theorem way_spec {ps es : List Int} : ∀ {k : Nat} {c : Int} {t : List Int}, txt ps es k c = some t → t.length = (way ps k c).length + 1 ∧ (way ps k c).Nodup ∧ ∀ x ∈ way ps k c, (257 ≤ x ∧ x < 257 + 7935) ∧ ∃ k' t', txt ps es k' (x : Int) = some t' ∧ t'.length ≤ t.length
  | 0, _, _, h => by cases h
  | k + 1, c, t, h => by
    have h0 := h
    rw [txt] at h
    rw [way]
    split at h
    · cases h
    · rename_i h1
      split at h
      · rename_i h2
        cases h
        rw [if_pos h2]
        exact ⟨rfl, List.nodup_nil, fun x hx => by cases hx⟩
      · rename_i h2
        rw [if_neg h2]
        cases hu : txt ps es k (ps.getD c.toNat 0) with
        | none => rw [hu] at h; cases h
        | some u =>
          rw [hu] at h
          cases h
          obtain ⟨a1, a2, a3⟩ := way_spec hu
          have hc : ((c.toNat : Nat) : Int) = c := by omega
          refine ⟨by rw [List.length_append, a1, List.length_cons]; rfl, List.nodup_cons.2 ⟨fun hx => ?_, a2⟩, fun x hx => ?_⟩
          · obtain ⟨_, k', t', b1, b2⟩ := a3 _ hx
            rw [hc] at b1
            have := txt_uniq h0 b1
            rw [← this] at b2
            simp at b2
            omega
          · rcases List.mem_cons.1 hx with rfl | hx
            · exact ⟨by omega, k + 1, _, by rw [hc]; exact h0, Nat.le_refl _⟩
            · obtain ⟨b0, k', t', b1, b2⟩ := a3 _ hx
              exact ⟨b0, k', t', b1, by simp; omega⟩
/-- No string is longer than there are codes. -/
theorem txt_short {ps es : List Int} {k : Nat} {c : Int} {t : List Int} (h : txt ps es k c = some t) : t.length ≤ 7936 := by
  obtain ⟨h1, h2, h3⟩ := way_spec h
  have := pig 257 7935 _ h2 fun x hx => (h3 x hx).1
  omega
/-- No code is beyond so many calls. -/
def ZB (ps : List Int) (last : Int) (a : Nat) : Prop := last ≤ 256 + (a : Int) ∧ ∀ q, 256 + a < q → q < 8192 → ps.getD q 0 = -1
theorem ZB.mono {ps : List Int} {last : Int} {a b : Nat} (h : ZB ps last a) (hab : a ≤ b) : ZB ps last b := ⟨by have := h.1; omega, fun q q1 q2 => h.2 q (by omega) q2⟩
end Go.Sx

/- lzw: calls; lives; played. -/
set_option maxRecDepth 100000
set_option maxHeartbeats 4000000
set_option linter.unusedVariables false
set_option linter.unusedSimpArgs false
namespace Go.Sx
open Go.Proofs.Try

section
variable {A : Ar} {C : CallT} {s : St} {κ : List Nat → SV → List Ck → Prop} {h0 h1 h2 h3 : Nat} {ps es : List Int} {m : List Int → Option Int} {last used : Int}
/-- A table's chunks behind a call. -/
def setT (A : Ar) (H : List Ck) (h0 h1 h2 h3 : Nat) (ps es : List Int) (m : List Int → Option Int) (last used : Int) : List Ck :=
  set1 (set1 (set1 (set1 H h0 (.box 79 [.lst h1 8192, .lst h2 8192, .mapv h3, .int .i64 last, .int .i64 used])) h1 (.lst 3 1 (A.ints .i64 ps))) h2 (.lst 5 1 (A.ints .u8 es))) h3 (.mp [.i64, .u8] m)
theorem call_znew (hC : C = CallX prog) (hA : A = R)
    (hk : ∀ z1 z8 l0 l1, z1 = List.replicate 8192 (-1) → z8 = List.replicate 8192 0 → l0 = len1 s.H → l1 = l0 + 1 → κ [] (.ptr l0 0) (apd s.H [.box 79 [.lst l1 8192, .lst (l1 + 1) 8192, .mapv (l1 + 1 + 1), .int .i64 256, .int .i64 0], .lst 3 1 (A.ints .i64 z1), .lst 5 1 (A.ints .u8 z8), .mp [.i64, .u8] fun _ => none])) : C 21 [] s κ := by
  have hS := s_znew
  rw [← hA] at hS
  refine cal_of hC hS [] trivial trivial trivial ?_
  rintro _ _ ⟨rfl, rfl⟩
  refine ⟨[], .ptr (len1 s.H) 0, _, rfl, ?_, ?_, hk _ _ _ _ rfl rfl rfl rfl⟩
  · rw [len1_eq]; rfl
  · rw [len1_eq, apd_eq]
    simp only [backH, TbH, List.map_cons, List.map_nil, renCk, renA hA, setAll, List.length_nil, List.drop_zero]
    rfl
theorem matchT (hA : A = R) (k : TO A s.H h0 h1 h2 h3 ps es m last used) : matchH 4 (linkOf s.H.length [(h0, 0, true), (h1, 0, true), (h2, 0, true), (h3, 0, true)]) s.H [(h0, 0, true), (h1, 0, true), (h2, 0, true), (h3, 0, true)] (TbH A ps es m last used) := by
  refine ⟨rfl, ⟨(show 1 < 4 by omega), (show 2 < 4 by omega), (show 3 < 4 by omega), trivial, trivial, trivial⟩, ⟨rfl, rfl, trivial, trivial, trivial, trivial⟩, k.o0, rfl, hLtsA hA .., zOksA hA .., ?_, rfl, hLtsA hA .., zOksA hA .., ?_, rfl, trivial, trivial, k.o3, trivial⟩
  · rw [renCk, renA hA]; exact k.o1
  · rw [renCk, renA hA]; exact k.o2
theorem call_zadd (hC : C = CallX prog) (hA : A = R) {p c : Int} (hT : ZT ps es last used) (hne : (h0 ≠ h1 ∧ h0 ≠ h2 ∧ h0 ≠ h3) ∧ (h1 ≠ h2 ∧ h1 ≠ h3) ∧ h2 ≠ h3) (k : TO A s.H h0 h1 h2 h3 ps es m last used)
    (hk : ∀ n ps' es' m' last' used', AddQ ps es m last used p c n ps' es' m' last' used' → κ [h0, h1, h2, h3] (.int .i64 n) (setT A s.H h0 h1 h2 h3 ps' es' m' last' used')) : C 39 [.ptr h0 0, .int .i64 p, .int .u8 c] s κ := by
  have hS := s_zadd ps es m last used p c hT
  rw [← hA] at hS
  refine cal_of hC hS [(h0, 0, true), (h1, 0, true), (h2, 0, true), (h3, 0, true)] ?_ (matchT hA k) ⟨⟨(show 0 < 4 by omega), trivial, rfl⟩, ⟨trivial, trivial, rfl⟩, ⟨trivial, trivial, rfl⟩, trivial⟩ ?_
  · simp only [lkOk, List.mem_cons, List.not_mem_nil, or_false, forall_eq_or_imp, forall_eq]
    have := hne
    simp
    omega
  rintro _ _ ⟨n, ps', es', m', last', used', h, rfl, rfl⟩
  refine ⟨_, _, (((s.H.set h0 (.box 79 [.lst h1 8192, .lst h2 8192, .mapv h3, .int .i64 last', .int .i64 used'])).set h1 (.lst 3 1 (A.ints .i64 ps'))).set h2 (.lst 5 1 (A.ints .u8 es'))).set h3 (.mp [.i64, .u8] m'), rfl, rfl, ?_, ?_⟩
  · simp only [backH, TbH, List.map_cons, List.map_nil, renCk, renA hA, setAll, List.length_cons, List.length_nil, List.drop_succ_cons, List.drop_zero, List.append_nil]
    rfl
  · have := hk n ps' es' m' last' used' h
    unfold setT at this
    rw [set1_eq, set1_eq, set1_eq, set1_eq] at this
    exact this
theorem call_zclear (hC : C = CallX prog) (hA : A = R) (hT : ZT ps es last used) (hne : (h0 ≠ h1 ∧ h0 ≠ h2 ∧ h0 ≠ h3) ∧ (h1 ≠ h2 ∧ h1 ≠ h3) ∧ h2 ≠ h3) (k : TO A s.H h0 h1 h2 h3 ps es m last used)
    (hk : ∀ ps' m' used', ClrQ ps es used ps' m' used' → κ [h0, h1, h2, h3] (.tup []) (setT A s.H h0 h1 h2 h3 ps' es m' 256 used')) : C 50 [.ptr h0 0] s κ := by
  have hS := s_zclear ps es m last used hT
  rw [← hA] at hS
  refine cal_of hC hS [(h0, 0, true), (h1, 0, true), (h2, 0, true), (h3, 0, true)] ?_ (matchT hA k) ⟨⟨(show 0 < 4 by omega), trivial, rfl⟩, trivial⟩ ?_
  · simp only [lkOk, List.mem_cons, List.not_mem_nil, or_false, forall_eq_or_imp, forall_eq]
    have := hne
    simp
    omega
  rintro _ _ ⟨ps', m', used', h, rfl, rfl⟩
  refine ⟨_, _, (((s.H.set h0 (.box 79 [.lst h1 8192, .lst h2 8192, .mapv h3, .int .i64 256, .int .i64 used'])).set h1 (.lst 3 1 (A.ints .i64 ps'))).set h2 (.lst 5 1 (A.ints .u8 es))).set h3 (.mp [.i64, .u8] m'), rfl, rfl, ?_, ?_⟩
  · simp only [backH, TbH, List.map_cons, List.map_nil, renCk, renA hA, setAll, List.length_cons, List.length_nil, List.drop_succ_cons, List.drop_zero, List.append_nil]
    rfl
  · have := hk ps' m' used' h
    unfold setT at this
    rw [set1_eq, set1_eq, set1_eq, set1_eq] at this
    exact this
theorem call_ztext (hC : C = CallX prog) (hA : A = R) (hT : ZT ps es last used) (k : TV A s.H h0 h1 h2 h3 ps es last used) {code : Int}
    (hk : ∀ t b n, TxQ ps es code t b → n = t.length → κ [] (.tup [.lst (len1 s.H) n, .bool b]) (apd s.H [.lst 5 1 (A.ints .u8 t)])) : C 51 [.ptr h0 0, .int .i64 code] s κ := by
  refine cal_of hC (s_ztext ps es last used code hT) [(h0, 0, false), (h1, 0, false), (h2, 0, false), (h3, 0, false)] ?_ (matchV hA k hT) ⟨⟨(show 0 < 4 by omega), trivial, rfl⟩, ⟨trivial, trivial, rfl⟩, trivial⟩ ?_
  · simp [lkOk]
  rintro _ _ ⟨t, b, n, h, hn, rfl, rfl⟩
  refine ⟨[], .tup [.lst (len1 s.H) n, .bool b], s.H ++ [.lst 5 1 (A.ints .u8 t)], rfl, ?_, ?_, ?_⟩
  · rw [len1_eq]; rfl
  · simp only [backH, VH, List.cons_append, List.nil_append, List.map_cons, List.map_nil, renCk, renA rfl, setAll, List.length_cons, List.length_nil, List.drop_succ_cons, List.drop_zero, hA]
  · have := hk t b n h hn
    rw [apd_eq] at this
    exact this
end

end Go.Sx

/- The reader: Bits. -/
set_option maxRecDepth 100000
set_option maxHeartbeats 4000000
set_option linter.unusedVariables false
set_option linter.unusedSimpArgs false
namespace Go.Sx
open Go.Proofs.Try

def BitsQ (xs : List Int) (m p : Nat) (er n : Int) (r : SV) (H : List Ck) : Prop :=
  ∃ (a b p' : Nat) (at_ hold nb er' y : Int), RF xs p' a b at_ hold nb ∧ r = .int .u32 y ∧ H = [.box 76 [.lst 1 m, .int .i64 at_, .int .u64 hold, .int .i64 nb, .int .i64 er', .bool true], .lst 5 1 (R.ints .u8 xs)] ∧
    ((er ≠ 0 ∧ y = 0 ∧ er' = er ∧ p' = p) ∨ (er = 0 ∧ (n < 0 ∨ 32 < n) ∧ y = 0 ∧ er' = 2 ∧ p' = p) ∨ (er = 0 ∧ 0 ≤ n ∧ n ≤ 32 ∧ 8 * (xs.length : Int) < p + n ∧ y = 0 ∧ er' = 3 ∧ p' = p) ∨
      (er = 0 ∧ 0 ≤ n ∧ n ≤ 32 ∧ p + n ≤ 8 * (xs.length : Int) ∧ y = cut (V xs) p n.toNat ∧ er' = 0 ∧ p' = p + n.toNat))

theorem s_bits (xs : List Int) (m p a b : Nat) (hx : RX xs m) (at_ hold nb er n : Int) (hF : RF xs p a b at_ hold nb) :
    Spec prog 49 [.ptr 0 0, .int .i64 n] [.box 76 [.lst 1 m, .int .i64 at_, .int .u64 hold, .int .i64 nb, .int .i64 er, .bool true], .lst 5 1 (R.ints .u8 xs)] (BitsQ xs m p er n) := by
  refine Spec_of_xX (D := fun i => if i = 10 then (7, []) else (0, [])) (ks := [0, 1, 4, 5]) tok mixed (fn := f49) rfl rfl rfl (by kernel_rfl) (N := 40) rfl (rs := [.tmp 4]) rfl (by show 2 ≤ 40; omega) fun A C ag L q hA hC hag hL hq => ?_
  rw [← hA]
  cbv
  refine cal_vw hC (s_err m at_ hold nb er) [(0, 0, false), (1, 0, false)] rfl ?_ ⟨⟨(show 0 < 2 by omega), trivial, rfl⟩, trivial⟩ rfl ?_
  · exact ⟨⟨(show 1 < 2 by omega), trivial, trivial, trivial, trivial, trivial, trivial⟩, ⟨rfl, trivial, trivial, trivial, trivial, trivial, trivial⟩, rfl, trivial, trivial, rfl, trivial⟩
  cbv
  refine ifB_intro (fun h => ?_) (fun h => ?_)
  · cbv
    subst hA hq
    have h : er ≠ 0 := by
      have h : (er != 0) = true := h
      simpa using h
    exact ⟨a, b, p, at_, hold, nb, er, 0, hF, rfl, rfl, .inl ⟨h, rfl, rfl, rfl⟩⟩
  have her : er = 0 := by
    subst hA
    have h : (er != 0) = false := h
    simpa using h
  subst her
  cbv
  refine cal_bool hC (s_right n) ⟨⟨trivial, trivial, rfl⟩, trivial⟩ fun y hy => ?_
  cbv
  refine ifB_intro (fun h' => ?_) (fun h' => ?_)
  · cbv
    subst hA hq
    have h' : (!y) = true := h'
    rw [hy] at h'
    refine ⟨a, b, p, at_, hold, nb, 2, 0, hF, rfl, rfl, .inr (.inl ⟨rfl, ?_, rfl, rfl, rfl⟩)⟩
    simp at h'
    omega
  have hn : 0 ≤ n ∧ n ≤ 32 := by
    subst hA
    have h' : (!y) = false := h'
    rw [hy] at h'
    simpa using h'
  clear hy h' h
  cbv
  have hS := s_fill xs m p a b hx at_ hold nb 0 n hn.2 hF
  rw [← hA] at hS
  refine cal_of hC hS [(0, 0, true), (1, 0, true)] ⟨by simp, by simp, trivial⟩ (matchH2 hA ⟨(show 1 < 2 by omega), trivial, trivial, trivial, trivial, trivial, trivial⟩ ⟨rfl, trivial, trivial, trivial, trivial, trivial, trivial⟩ rfl rfl rfl) ⟨⟨(show 0 < 2 by omega), trivial, rfl⟩, ⟨trivial, trivial, rfl⟩, trivial⟩ ?_
  rintro _ _ ⟨rfl, a, b, at_, hold, nb, hF, hfull, rfl⟩
  refine ⟨_, _, _, rfl, rfl, backH2 hA rfl, ?_⟩
  cbv
  refine ifB_intro (fun h => ?_) (fun h => ?_)
  · cbv
    subst hA hq
    have h : nb < n := of_decide_eq_true h
    refine ⟨a, b, p, at_, hold, nb, 3, 0, hF, rfl, rfl, .inr (.inr (.inl ⟨rfl, hn.1, hn.2, ?_, rfl, rfl, rfl⟩))⟩
    obtain ⟨h1, h2, h3, h4, h5, h6⟩ := hF
    obtain ⟨-, hm, -⟩ := hx
    omega
  have hnb : n ≤ nb := by
    subst hA
    have h : ¬ nb < n := of_decide_eq_false h
    omega
  clear h hfull hS
  cbv
  refine ⟨by subst hA; exact hn.1, ?_⟩
  have hS := s_drop m xs at_ hold nb 0 n hn.1
  rw [← hA] at hS
  refine cal_of hC hS [(0, 0, true), (1, 0, true)] ⟨by simp, by simp, trivial⟩ (matchH2 hA ⟨(show 1 < 2 by omega), trivial, trivial, trivial, trivial, trivial, trivial⟩ ⟨rfl, trivial, trivial, trivial, trivial, trivial, trivial⟩ rfl rfl rfl) ⟨⟨(show 0 < 2 by omega), trivial, rfl⟩, ⟨trivial, trivial, rfl⟩, trivial⟩ ?_
  rintro _ _ ⟨rfl, rfl⟩
  refine ⟨_, _, _, rfl, rfl, backH2 hA rfl, ?_⟩
  obtain ⟨u, hu⟩ : ∃ u, u = shrI .u64 hold n := ⟨_, rfl⟩
  obtain ⟨v, hv⟩ : ∃ v, v = IntKind.i64.wrap (nb - n) := ⟨_, rfl⟩
  rw [← hu, ← hv]
  cbv
  subst hA hq
  obtain ⟨h1, h2, h3, h4, h5, h6⟩ := hF
  obtain ⟨hb, hm, hl⟩ := hx
  obtain ⟨k, rfl⟩ : ∃ k : Nat, n = k := ⟨n.toNat, by omega⟩
  have hkb : k ≤ b := by omega
  have hc0 := cut_nonneg (V_bnd hb).1 p b
  have hc1 := cut_lt (V xs) p b
  have hq : (2 : Int) ^ b ≤ 2 ^ 39 := by exact_mod_cast Nat.pow_le_pow_right (by decide) h5
  have hq39 : (2 : Int) ^ 39 = 549755813888 := by decide
  have hqk : (2 : Int) ^ k ≤ 2 ^ 32 := by exact_mod_cast Nat.pow_le_pow_right (by decide) (by omega)
  have hq32 : (2 : Int) ^ 32 = 4294967296 := by decide
  refine ⟨a, b - k, p + k, at_, u, v, 0, _, ⟨h1, ?_, by omega, h4, by omega, ?_⟩, rfl, rfl, .inr (.inr (.inr ⟨rfl, hn.1, hn.2, by omega, ?_, rfl, by omega⟩))⟩
  · rw [hv, wrap64 (by omega)]; omega
  · rw [hu, shr64 (by omega), h6, cut_drop _ _ _ _ hkb]
  · show IntKind.u32.wrap (band .u64 hold (IntKind.u64.wrap (shlI .u64 1 k - 1))) = _
    rw [mask64 (by omega) (by omega) (by omega), h6, cut_cut _ _ _ _ hkb]
    have := cut_nonneg (V_bnd hb).1 p k
    have := cut_lt (V xs) p k
    rw [wrapu32 (by omega), Int.toNat_natCast]
end Go.Sx

/- Open, and that any bit is read at all. -/
set_option maxRecDepth 100000
set_option maxHeartbeats 4000000
set_option linter.unusedVariables false
set_option linter.unusedSimpArgs false
namespace Go.Sx
open Go.Proofs.Try

theorem s_clone (xs : List Int) (m : Nat) (hm : m = xs.length) (hl : xs.length ≤ 1000000000000) : Spec prog 33 [.sl 0 0 m false] [.vw (R.ints .u8 xs)]
    (fun r H => r = .lst 2 m ∧ H = [.vw (R.ints .u8 xs), .gone, .lst 5 1 (R.ints .u8 xs)]) := by
  refine Spec.of_nil2 5 1 ?_
  refine Spec_of_xX (D := fun i => (0, [])) (ks := [0, 2]) tok mixed (fn := f33) rfl rfl rfl (by kernel_rfl) (N := 8) rfl (rs := [.tmp 2]) rfl (by show 1 ≤ 8; omega) fun A C ag L q hA hC hag hL hq => ?_
  rw [← hA]
  cbv
  have hsub := subA hA (k := .u8) (xs := xs) (o := 0) (n := m) (by omega)
  obtain ⟨ys, hys⟩ : ∃ ys, ys = (xs.drop 0).take m := ⟨_, rfl⟩
  rw [← hys] at hsub
  have main : A.len [] 0 1 ∧ A.fit (A.add 0 m) 1 ∧ q (.lst 2 (A.add 0 m)) [.vw (A.ints .u8 xs), .gone, .lst 5 1 (A.ints .u8 ys)] := by
    subst hA hq
    refine ⟨rfl, ?_, .inl ⟨?_, ?_⟩⟩
    · show (0 + m) * 1 ≤ room
      unfold room; omega
    · show SV.lst 2 (0 + m) = _
      rw [Nat.zero_add]
    · rw [hys, List.drop_zero, hm, List.take_length]
  refine ifB_intro (fun h => ?_) (fun h => ?_)
  · cbv
    refine bindO_some hsub (guardB_true (scA hA ..) ?_)
    cbv
    exact main
  · refine ⟨?_, ?_⟩
    · cbv
      refine bindO_some hsub (guardB_true (scA hA ..) ?_)
      cbv
      exact main
    · cbv
      subst hA hq
      have h : ¬ 0 < m := of_decide_eq_false h
      have h0 : m = 0 := by omega
      have hx : xs = [] := List.eq_nil_of_length_eq_zero (by omega)
      subst hx h0
      exact .inr ⟨rfl, rfl, rfl⟩

theorem s_open (xs : List Int) (m : Nat) (hx : RX xs m) : Spec prog 20 [.sl 0 0 m false] [.vw (R.ints .u8 xs)]
    (fun r H => r = .ptr 3 0 ∧ H = [.vw (R.ints .u8 xs), .gone, .lst 5 1 (R.ints .u8 xs), .box 76 [.lst 2 m, .int .i64 0, .int .u64 0, .int .i64 0, .int .i64 0, .bool true]]) := by
  refine Spec_of_xX (D := fun i => (0, [])) (ks := [0, 2]) tok mixed (fn := f20) rfl rfl rfl (by kernel_rfl) (N := 7) rfl (rs := [.tmp 2]) rfl (by show 1 ≤ 7; omega) fun A C ag L q hA hC hag hL hq => ?_
  have hS := s_clone xs m hx.2.1 hx.2.2
  rw [← hA] at hS ⊢
  cbv
  refine cal_of hC hS [(0, 0, false)] ⟨by simp, trivial⟩ ⟨hLtsA hA .., zOksA hA .., ?_, trivial⟩ ⟨⟨(show 0 < 1 by omega), rfl, rfl, rfl⟩, trivial⟩ ?_
  · rw [renA hA, cellsAt_eq rfl (by simp [Ck.cells])]
    simp [Ck.cells]
  rintro _ _ ⟨rfl, rfl⟩
  refine ⟨_, _, [.vw (A.ints .u8 xs), .gone, .lst 5 1 (A.ints .u8 xs)], rfl, rfl, ?_, ?_⟩
  · simp only [backH, List.map_cons, List.map_nil, renCk, renA hA]
    rfl
  cbv
  subst hA hq
  exact ⟨rfl, rfl⟩
end Go.Sx

/- The reader's other functions, and calls of them. -/
set_option maxRecDepth 100000
set_option maxHeartbeats 4000000
set_option linter.unusedVariables false
set_option linter.unusedSimpArgs false
namespace Go.Sx
open Go.Proofs.Try

theorem s_cut (xs : List Int) (m : Nat) (n : Int) (h0 : 0 ≤ n) : Spec prog 8 [.sl 0 0 m false, .int .i64 n] [.vw (R.ints .u8 xs)]
    (fun r H => ∃ k : Nat, k = min m n.toNat ∧ r = .sl 0 0 k false ∧ H = [.vw (R.ints .u8 xs)]) := by
  refine Spec_of_xX (D := fun _ => (0, [])) (ks := [0, 1, 4]) tok mixed (fn := f8) rfl rfl rfl (by kernel_rfl) (N := 13) rfl (rs := [.tmp 4]) rfl (by show 2 ≤ 13; omega) fun A C ag L q hA hC hag hL hq => ?_
  rw [← hA]
  cbv
  refine ifB_intro (fun h => ?_) (fun h => ?_)
  · cbv
    subst hA hq
    have h : n < (m : Int) := of_decide_eq_true h
    refine ⟨(by decide : (0 : Int) ≤ 0), h0, (by show n ≤ (m : Int); omega), _, ?_, rfl, rfl⟩
    show (n - 0).toNat = _
    omega
  · cbv
    subst hA hq
    have h : ¬ n < (m : Int) := of_decide_eq_false h
    exact ⟨m, by omega, rfl, rfl⟩

section
variable {A : Ar} {C : CallT} {xs : List Int} {m p a b : Nat} {at_ hold nb er : Int} {hb hr : Nat} {s : St} {κ : List Nat → SV → List Ck → Prop}

theorem rdV {g : Nat → Nat × Nat} {n : Nat} (h4 : s.H[hb]? = some (.box 76 [.lst hr m, .int .i64 at_, .int .u64 hold, .int .i64 nb, .int .i64 er, .bool true])) (hr' : hr < s.H.length) :
    matchH 2 (linkOf n [(hb, 0, false), (hr, 0, false)]) s.H [(hb, 0, false), (hr, 0, false)] [.vw [.lst 1 m, .int .i64 at_, .int .u64 hold, .int .i64 nb, .int .i64 er, .bool true], .vw []] := by
  refine ⟨⟨(show 1 < 2 by omega), trivial, trivial, trivial, trivial, trivial, trivial⟩, ⟨rfl, trivial, trivial, trivial, trivial, trivial, trivial⟩, ?_, trivial, trivial, ?_, trivial⟩
  · rw [cellsAt_eq h4 (by simp [Ck.cells])]; rfl
  · rw [cellsAt_eq (List.getElem?_eq_getElem hr') (by simp)]; rfl

theorem vwD {g : Nat → Nat × Nat} {n : Nat} (h4 : s.H[hb]? = some (.vw [.lst hr m, .int .i64 at_, .int .u64 hold, .int .i64 nb, .int .i64 er, .bool true])) (hr' : hr < s.H.length) :
    matchH 2 (linkOf n [(hb, 0, false), (hr, 0, false)]) s.H [(hb, 0, false), (hr, 0, false)] [.vw [.lst 1 m, .int .i64 at_, .int .u64 hold, .int .i64 nb, .int .i64 er, .bool true], .vw []] := by
  refine ⟨⟨(show 1 < 2 by omega), trivial, trivial, trivial, trivial, trivial, trivial⟩, ⟨rfl, trivial, trivial, trivial, trivial, trivial, trivial⟩, ?_, trivial, trivial, ?_, trivial⟩
  · rw [cellsAt_eq h4 (by simp [Ck.cells])]; rfl
  · rw [cellsAt_eq (List.getElem?_eq_getElem hr') (by simp)]; rfl

theorem call_err (hC : C = CallX prog) (h4 : s.H[hb]? = some (.box 76 [.lst hr m, .int .i64 at_, .int .u64 hold, .int .i64 nb, .int .i64 er, .bool true])) (hr' : hr < s.H.length) (hk : κ [] (.int .i64 er) s.H) : C 40 [.ptr hb 0] s κ :=
  cal_vw hC (s_err m at_ hold nb er) [(hb, 0, false), (hr, 0, false)] rfl (rdV (g := fun h => (h, 0)) h4 hr') ⟨⟨(show 0 < 2 by omega), trivial, rfl⟩, trivial⟩ rfl hk
end

theorem s_left (m : Nat) (at_ hold nb er : Int) : Spec prog 24 [.ptr 0 0] [.vw [.lst 1 m, .int .i64 at_, .int .u64 hold, .int .i64 nb, .int .i64 er, .bool true], .vw []]
    (fun r H => r = .int .i64 (if er = 0 then IntKind.i64.wrap (nb + IntKind.i64.wrap (8 * IntKind.i64.wrap (m - at_))) else 0) ∧ H = [.vw [.lst 1 m, .int .i64 at_, .int .u64 hold, .int .i64 nb, .int .i64 er, .bool true], .vw []]) := by
  refine Spec_of_xX (D := fun i => if i = 3 then (15, []) else (0, [])) (ks := [0, 2]) tok mixed (fn := f24) rfl rfl rfl (by kernel_rfl) (N := 22) rfl (rs := [.tmp 2]) rfl (by show 1 ≤ 22; omega) fun A C ag L q hA hC hag hL hq => ?_
  cbv
  refine cal_vw hC (s_err m at_ hold nb er) [(0, 0, false), (1, 0, false)] rfl (vwD (g := fun h => (h, 0)) rfl (by show 1 < 2; omega)) ⟨⟨(show 0 < 2 by omega), trivial, rfl⟩, trivial⟩ rfl ?_
  cbv
  refine ifB_intro (fun h => ?_) (fun h => ?_)
  · cbv
    subst hA hq
    have h : (er != 0) = true := h
    have h : er ≠ 0 := by simpa using h
    exact ⟨by rw [if_neg h], rfl⟩
  · cbv
    subst hA hq
    have h : (er != 0) = false := h
    have h : er = 0 := by simpa using h
    exact ⟨by rw [if_pos h]; rfl, rfl⟩

/-- How many bits are left. -/
def leftI (n p : Nat) (er : Int) : Int := if er = 0 then 8 * n - p else 0

section
variable {A : Ar} {C : CallT} {xs : List Int} {m p a b : Nat} {at_ hold nb er : Int} {hb hr : Nat} {s : St} {κ : List Nat → SV → List Ck → Prop}

theorem call_left (hC : C = CallX prog) (hx : RX xs m) (hF : RF xs p a b at_ hold nb) (h4 : s.H[hb]? = some (.box 76 [.lst hr m, .int .i64 at_, .int .u64 hold, .int .i64 nb, .int .i64 er, .bool true])) (hr' : hr < s.H.length) (hk : ∀ y, y = leftI xs.length p er → κ [] (.int .i64 y) s.H) : C 24 [.ptr hb 0] s κ := by
  refine cal_vw hC (s_left m at_ hold nb er) [(hb, 0, false), (hr, 0, false)] rfl (rdV (g := fun h => (h, 0)) h4 hr') ⟨⟨(show 0 < 2 by omega), trivial, rfl⟩, trivial⟩ rfl (hk _ ?_)
  unfold leftI
  obtain ⟨h1, h2, h3, h4, h5, h6⟩ := hF
  obtain ⟨hb, hm, hl⟩ := hx
  split
  · rw [wrap64 (n := m - at_) (by omega), wrap64 (n := 8 * _) (by omega), wrap64 (by omega)]; omega
  · rfl

theorem call_bits (hC : C = CallX prog) (hA : A = R) {n : Int} (hx : RX xs m) (hF : RF xs p a b at_ hold nb) (hne : hb ≠ hr) (h4 : s.H[hb]? = some (.box 76 [.lst hr m, .int .i64 at_, .int .u64 hold, .int .i64 nb, .int .i64 er, .bool true])) (h5 : s.H[hr]? = some (.lst 5 1 (A.ints .u8 xs)))
    (hk : ∀ (a b p' : Nat) (at_ hold nb er' y : Int), RF xs p' a b at_ hold nb → 
      ((er ≠ 0 ∧ y = 0 ∧ er' = er ∧ p' = p) ∨ (er = 0 ∧ (n < 0 ∨ 32 < n) ∧ y = 0 ∧ er' = 2 ∧ p' = p) ∨ (er = 0 ∧ 0 ≤ n ∧ n ≤ 32 ∧ 8 * (xs.length : Int) < p + n ∧ y = 0 ∧ er' = 3 ∧ p' = p) ∨
      (er = 0 ∧ 0 ≤ n ∧ n ≤ 32 ∧ p + n ≤ 8 * (xs.length : Int) ∧ y = cut (V xs) p n.toNat ∧ er' = 0 ∧ p' = p + n.toNat)) →
      κ [hb, hr] (.int .u32 y) (set1 (set1 s.H hb (.box 76 [.lst hr m, .int .i64 at_, .int .u64 hold, .int .i64 nb, .int .i64 er', .bool true])) hr (.lst 5 1 (A.ints .u8 xs)))) : C 49 [.ptr hb 0, .int .i64 n] s κ := by
  have hS := s_bits xs m p a b hx at_ hold nb er n hF
  rw [← hA] at hS
  refine cal_of hC hS [(hb, 0, true), (hr, 0, true)] ⟨by simp [hne], by simp, trivial⟩ (matchH2 hA ⟨(show 1 < 2 by omega), trivial, trivial, trivial, trivial, trivial, trivial⟩ ⟨rfl, trivial, trivial, trivial, trivial, trivial, trivial⟩ rfl h4 h5) ⟨⟨(show 0 < 2 by omega), trivial, rfl⟩, ⟨trivial, trivial, rfl⟩, trivial⟩ ?_
  rintro _ _ ⟨a, b, p', at_, hold, nb, er', y, hF', rfl, rfl, hQ⟩
  rw [← hA]
  refine ⟨_, _, _, rfl, rfl, backH2 hA rfl, ?_⟩
  have := hk a b p' at_ hold nb er' y hF' hQ
  rw [set1_eq, set1_eq] at this
  exact this
end

section
variable {A : Ar} {C : CallT} {xs : List Int} {m p a b : Nat} {at_ hold nb er : Int} {hb hr : Nat} {s : St} {κ : List Nat → SV → List Ck → Prop}
/-- Open, of a window that is looked at. -/
theorem call_open (hC : C = CallX prog) (hA : A = R) {k : Nat} {cl : Bool} {ys : List Int} (hx : RX xs k) (h4 : s.H[hb]? = some (.vw (A.ints .u8 ys))) (hxy : xs = ys.take k) (hky : k ≤ ys.length)
    (hk : κ [] (.ptr (len1 s.H + 2) 0) (apd s.H [.gone, .lst 5 1 (A.ints .u8 xs), .box 76 [.lst (len1 s.H + 1) k, .int .i64 0, .int .u64 0, .int .i64 0, .int .i64 0, .bool true]])) : C 20 [.sl hb 0 k cl] s κ := by
  have hS := s_open xs k hx
  rw [← hA] at hS
  refine cal_of hC hS [(hb, 0, false)] ⟨by simp, trivial⟩ ⟨hLtsA hA .., zOksA hA .., ?_, trivial⟩ ⟨⟨(show 0 < 1 by omega), rfl, rfl, rfl⟩, trivial⟩ ?_
  · subst hA
    rw [cellsAt_eq h4 (by rw [R_ints_length]; show 0 + _ ≤ (R.ints .u8 ys).length; rw [R_ints_length, hxy]; simp; omega), R_ints_length, R_ints_ren]
    show some (((R.ints .u8 ys).drop 0).take xs.length) = some (R.ints .u8 xs)
    rw [List.drop_zero]
    show some ((ints .u8 ys).take xs.length) = some (ints .u8 xs)
    rw [ints_take, ← hx.2.1, hxy]
  rintro _ _ ⟨rfl, rfl⟩
  refine ⟨_, _, s.H ++ [.gone, .lst 5 1 (A.ints .u8 xs), .box 76 [.lst (s.H.length + 1) k, .int .i64 0, .int .u64 0, .int .i64 0, .int .i64 0, .bool true]], rfl, rfl, ?_, ?_⟩
  · simp only [backH, List.map_cons, List.map_nil, renCk, renA hA]
    rfl
  · rw [len1_eq, apd_eq] at hk
    exact hk
end
end Go.Sx

/- Bits in the other order: contracts. -/
set_option maxRecDepth 100000
set_option maxHeartbeats 4000000
namespace Go.Sx
open Go.Proofs.Try

def rby (x : Int) : Int :=
  let y := bor .u32 (band .u32 (shrI .u32 x 8) 16711935) (shlI .u32 (band .u32 x 16711935) 8)
  bor .u32 (shrI .u32 y 16) (shlI .u32 y 16)
def rv (x : Int) : Int :=
  let y := bor .u32 (band .u32 (shrI .u32 x 1) 1431655765) (shlI .u32 (band .u32 x 1431655765) 1)
  let z := bor .u32 (band .u32 (shrI .u32 y 2) 858993459) (shlI .u32 (band .u32 y 858993459) 2)
  let u := bor .u32 (band .u32 (shrI .u32 z 4) 252645135) (shlI .u32 (band .u32 z 252645135) 4)
  rby u

def tn (x n : Int) : Int := IntKind.u32.wrap (shrI .u64 (IntKind.u64.wrap (rv x)) (IntKind.i64.wrap (32 - (if 32 < (if n < 0 then 0 else n) then 32 else (if n < 0 then 0 else n)))))

/-- What the document's turn holds behind so many rounds. -/
def T (x : Int) : Nat → Int
  | 0 => 0
  | i + 1 => IntKind.u32.wrap (IntKind.u32.wrap (T x i * 2) + ((x / 2 ^ i).tmod 2))

end Go.Sx

/- The writer: the contract of Put. -/
set_option maxRecDepth 100000
set_option maxHeartbeats 4000000
set_option linter.unusedVariables false
set_option linter.unusedSimpArgs false
namespace Go.Sx
open Go.Proofs.Try

/-- A writer's state: the bits W, so many of them; bytes, and what is in hand. -/
def WF (W : Int) (P : Nat) (ys : List Int) (k n : Nat) (hold nI : Int) : Prop :=
  nI = n ∧ k = ys.length ∧ P = 8 * ys.length + n ∧ 0 ≤ hold ∧ hold < 2 ^ n ∧ Byt ys ∧ W = V ys + 2 ^ (8 * ys.length) * hold

/-- A byte goes out. -/
theorem WF_step {W : Int} {P : Nat} {ys : List Int} {k n : Nat} {hold nI : Int} (h : WF W P ys k n hold nI) (hn : 8 ≤ n) : WF W P (ys ++ [hold % 256]) (k + 1) (n - 8) (hold / 256) (nI - 8) := by
  obtain ⟨h1, h2, h3, h4, h5, h6, h7⟩ := h
  have hm0 := Int.emod_nonneg hold (by decide : (256 : Int) ≠ 0)
  have hm1 := Int.emod_lt_of_pos hold (by decide : (0 : Int) < 256)
  refine ⟨by omega, by simp [h2], by simp; omega, Int.ediv_nonneg h4 (by decide), ?_, ?_, ?_⟩
  · obtain ⟨q, rfl⟩ : ∃ q, n = q + 8 := ⟨n - 8, by omega⟩
    rw [Nat.add_sub_cancel]
    rw [Int.pow_add] at h5
    exact Int.ediv_lt_of_lt_mul (by decide) (by simpa using h5)
  · intro x hx
    rcases List.mem_append.1 hx with hx | hx
    · exact h6 x hx
    · simp at hx; omega
  · rw [h7, V_app, List.length_append]
    simp only [V, List.length_cons, List.length_nil]
    rw [show 8 * (ys.length + (0 + 1)) = 8 * ys.length + 8 by omega, Int.pow_add]
    generalize (2 : Int) ^ (8 * ys.length) = p
    have e : hold = 256 * (hold / 256) + hold % 256 := by omega
    have e2 : p * 2 ^ 8 * (hold / 256) = p * (256 * (hold / 256)) := by rw [Int.mul_assoc]; rfl
    rw [e2, Int.add_assoc, ← Int.mul_add]
    congr 2
    omega

/-- A number comes in. -/
theorem WF_put {W : Int} {P : Nat} {ys : List Int} {k n : Nat} {hold nI : Int} (h : WF W P ys k n hold nI) (v : Int) (j : Nat) (hv0 : 0 ≤ v) (hv1 : v < 2 ^ j) : WF (W + 2 ^ P * v) (P + j) ys k (n + j) (hold + v * 2 ^ n) (nI + j) := by
  obtain ⟨h1, h2, h3, h4, h5, h6, h7⟩ := h
  have hp := pow_pos2 n
  have hm := Int.mul_nonneg hv0 (Int.le_of_lt hp)
  refine ⟨by omega, h2, by omega, by omega, ?_, h6, ?_⟩
  · rw [Int.pow_add]
    have : v * 2 ^ n ≤ (2 ^ j - 1) * 2 ^ n := Int.mul_le_mul_of_nonneg_right (by omega) (Int.le_of_lt hp)
    rw [Int.sub_mul, Int.one_mul] at this
    rw [Int.mul_comm (2 ^ n)]
    omega
  · rw [h7, h3, Int.pow_add, Int.mul_add, Int.mul_comm v, ← Int.mul_assoc, Int.add_assoc]

def PutN (k : Int) : Nat := (if 32 < (if k < 0 then 0 else k) then 32 else (if k < 0 then 0 else k)).toNat

theorem s_put (W : Int) (P k n : Nat) (ys : List Int) (hold nI x kI : Int) (hF : WF W P ys k n hold nI) (hn : n < 8) (hx : 0 ≤ x ∧ x < 4294967296) (hl : ys.length ≤ 10000000000) :
    Spec prog 66 [.ptr 0 0, .int .u32 x, .int .i64 kI] [.box 94 [.lst 1 k, .int .u64 hold, .int .i64 nI], .lst 5 1 (R.ints .u8 ys)]
      (fun r H => r = .tup [] ∧ ∃ (ys : List Int) (k n : Nat) (hold nI : Int), WF (W + 2 ^ P * (x % 2 ^ PutN kI)) (P + PutN kI) ys k n hold nI ∧ n < 8 ∧ H = [.box 94 [.lst 2 k, .int .u64 hold, .int .i64 nI], .gone, .lst 5 1 (R.ints .u8 ys)]) := by
  refine Spec_of_xF (D := fun i => if i = 2 then (15, []) else if i = 6 then (12, [2]) else (0, [])) (ks := [0, 1, 2]) tok mixed (fn := f66) rfl rfl rfl (by kernel_rfl) (N := 70) rfl (rs := []) rfl (by show 3 ≤ 70; omega) fun A C ag L fi hA hC hag hL hfi => ?_
  rw [← hA]
  obtain ⟨K, hK⟩ : ∃ K : Int, K = A.mn (A.mx kI 0) 32 := ⟨_, rfl⟩
  have hK' : K = (PutN kI : Int) ∧ PutN kI ≤ 32 := by
    subst hA
    have : K = (if 32 < (if kI < 0 then 0 else kI) then 32 else (if kI < 0 then 0 else kI)) := hK
    unfold PutN
    rw [this]
    constructor <;> split <;> split <;> omega
  obtain ⟨J, hJ⟩ : ∃ J, J = PutN kI := ⟨_, rfl⟩
  rw [← hJ] at hK' hfi
  have h1 : WF (W + 2 ^ P * (x % 2 ^ J)) (P + J) ys k (n + J) (A.bin .or .u64 hold (A.bin .shl .u64 (A.bin .and .u64 (A.wrap .u64 x) (A.bin .sub .u64 (A.bin .shl .u64 1 K) 1)) nI)) (A.bin .add .i64 nI K) := by
    have hj := WF_put hF (x % 2 ^ J) J (Int.emod_nonneg _ (Int.ne_of_gt (pow_pos2 J))) (Int.emod_lt_of_pos _ (pow_pos2 J))
    obtain ⟨g1, g2, g3, g4, g5, g6, g7⟩ := hF
    obtain ⟨e1, e2⟩ := hK'
    subst hA
    have a1 : R.bin .add .i64 nI K = nI + J := (wrap64 (n := nI + K) (by omega)).trans (by omega)
    have a2 : R.bin .and .u64 (R.wrap .u64 x) (R.bin .sub .u64 (R.bin .shl .u64 1 K) 1) = x % 2 ^ J := by
      show band .u64 (IntKind.u64.wrap x) (IntKind.u64.wrap (shlI .u64 1 K - 1)) = _
      rw [wrapu64 (n := x) (by omega), e1, mask64 (by omega) (by omega) (by omega)]
    have hv0 : 0 ≤ x % 2 ^ J := Int.emod_nonneg _ (Int.ne_of_gt (pow_pos2 J))
    have hv1 : x % 2 ^ J < 2 ^ J := Int.emod_lt_of_pos _ (pow_pos2 J)
    have q1 : (2 : Int) ^ J ≤ 2 ^ 32 := by exact_mod_cast Nat.pow_le_pow_right (by decide) e2
    have q2 : (2 : Int) ^ n ≤ 2 ^ 7 := by exact_mod_cast Nat.pow_le_pow_right (by decide) (by omega)
    have q3 : (2 : Int) ^ 32 = 4294967296 := by decide
    have q4 : (2 : Int) ^ 7 = 128 := by decide
    have qp := pow_pos2 n
    have q5 : x % 2 ^ J * 2 ^ n ≤ 4294967295 * 128 := Int.mul_le_mul (by omega) (by omega) (by omega) (by omega)
    have q6 := Int.mul_nonneg hv0 (Int.le_of_lt qp)
    have a3 : R.bin .or .u64 hold (R.bin .shl .u64 (x % 2 ^ J) nI) = hold + x % 2 ^ J * 2 ^ n := by
      show bor .u64 hold (shlI .u64 (x % 2 ^ J) nI) = _
      rw [g1, shl64 (by omega) hv0 (by omega), or64 g4 g5 hv0 (by omega)]
    rw [a1, a2, a3]
    exact hj
  have hge : A.ge0 (A.mn (A.mx kI 0) 32) ∧ A.ge0 nI := by
    rw [← hK]
    have h0 : 0 ≤ nI := by have := hF.1; omega
    have h2 : 0 ≤ K := by have := hK'.1; omega
    subst hA
    exact ⟨h2, h0⟩
  cbv
  refine ⟨hge.1, hge.2, ?_⟩
  rw [hL]
  refine ⟨fun kk s => ∃ (ys : List Int) (k n : Nat) (hold nI : Int), WF (W + 2 ^ P * (x % 2 ^ J)) (P + J) ys k n hold nI ∧ (n ≤ 39 ∧ ys.length ≤ 10000000000 + 5 - n / 8) ∧ kk = n ∧ s = ⟨[(0, .ptr 0 0)], [.box 94 [.lst 2 k, .int .u64 hold, .int .i64 nI], .gone, .lst 5 1 (A.ints .u8 ys)]⟩,
    ⟨n + J, ⟨[(0, .ptr 0 0)], [.box 94 [.lst 2 k, .int .u64 (A.bin .or .u64 hold (A.bin .shl .u64 (A.bin .and .u64 (A.wrap .u64 x) (A.bin .sub .u64 (A.bin .shl .u64 1 (A.mn (A.mx kI 0) 32)) 1)) nI)), .int .i64 (A.bin .add .i64 nI (A.mn (A.mx kI 0) 32))], .gone, .lst 5 1 (A.ints .u8 ys)]⟩, ?_, ys, k, n + J, _, _, ?_, ?_, rfl, rfl⟩, ?_⟩
  · subst hA
    exact Sub_of [0, 1, 1] (by simp [sigOk, ndG]) (by simp) ⟨fun _ => rfl, (by simp), ⟨⟨(show 2 < 3 by omega), trivial, trivial, trivial⟩, rfl⟩, fun _ => rfl, (by simp), trivial, fun h => absurd h (by simp), (by simp), subC_ints rfl, trivial⟩
      ⟨.inr ⟨(show 0 < 3 by omega), rfl⟩, trivial⟩
  · rw [← hK]; exact h1
  · have := hK'.2
    omega
  clear h1 hF hge
  rintro kk _ ⟨ys, k, n, hold, nI, hW, hb, hkk, rfl⟩
  cbv
  refine ifB_intro (fun h => ?_) (fun h => ?_)
  · cbv
    have ha := apdA1 hA .u8 ys (A.wrap .u8 hold)
    refine ⟨?_, ?_, ?_, ?_⟩
    · have := hW.2.1
      subst hA
      show (R.ints .u8 ys).length = k * 1
      rw [R_ints_length]; omega
    · have := hW.2.1
      subst hA
      show (k + 1) * 1 ≤ room
      unfold room; omega
    · subst hA; exact (by decide : (0 : Int) ≤ 8)
    subst hA hag
    have h : 8 ≤ nI := of_decide_eq_true h
    have h8 : 8 ≤ n := by have := hW.1; omega
    have hs := WF_step hW h8
    have hn64 : nI = n := hW.1
    have e1 : R.bin .sub .i64 nI 8 = nI - 8 := wrap64 (n := nI - 8) (by omega)
    have e2 : R.bin .shr .u64 hold 8 = hold / 256 := shr64 (a := hold) (n := 8) (by omega)
    have e3 : R.wrap .u8 hold = hold % 256 := Go.IntKind.wrap_u8 hold
    rw [← e1, ← e2, ← e3] at hs
    refine ⟨n - 8, ⟨[(0, .ptr 0 0)], [.box 94 [.lst 2 (k + 1), .int .u64 (R.bin .shr .u64 hold 8), .int .i64 (R.bin .sub .i64 nI 8)], .gone, .lst 5 1 (R.ints .u8 (ys ++ [R.wrap .u8 hold]))]⟩, by omega, ?_, ys ++ [R.wrap .u8 hold], k + 1, n - 8, _, _, hs, by simp; omega, rfl, rfl⟩
    exact Sub_of [0, 1, 4] (by simp [sigOk, ndG]) (by simp) ⟨fun _ => rfl, (by simp), ⟨⟨(show 2 < 3 by omega), trivial, trivial, trivial⟩, rfl⟩, fun _ => rfl, (by simp), trivial, fun h => absurd h (by simp), (by simp), subC_ints (congrArg (fun l => some (Ck.lst 5 1 l)) ha), trivial⟩
      ⟨.inr ⟨(show 0 < 3 by omega), rfl⟩, trivial⟩
  · cbv
    have h8 : n < 8 := by
      have h : ¬ 8 ≤ nI := by subst hA; exact of_decide_eq_false h
      have := hW.1
      omega
    subst hA hfi
    refine Fin_of ⟨[], [.box 94 [.lst 2 k, .int .u64 hold, .int .i64 nI], .gone, .lst 5 1 (R.ints .u8 ys)]⟩
      (Sub_of [0, 1, 2] (by simp [sigOk, ndG]) (by simp) ⟨fun _ => rfl, (by simp), ⟨⟨(show 2 < 3 by omega), trivial, trivial, trivial⟩, rfl⟩, fun _ => rfl, (by simp), trivial, fun h => absurd h (by simp), (by simp), subC_ints rfl, trivial⟩ trivial) ?_
    exact ⟨rfl, ys, k, n, hold, nI, hW, h8, rfl⟩
end Go.Sx

/- hist: contracts. -/
set_option maxRecDepth 100000
set_option maxHeartbeats 4000000
set_option linter.unusedVariables false
set_option linter.unusedSimpArgs false
namespace Go.Sx
open Go.Proofs.Try

theorem s_ok (wd mo n : Int) (k : Nat) (nn : Bool) : Spec prog 34 [.ptr 0 0] [.vw [.int .i64 wd, .int .i64 mo, .bool nn, .lst 1 k], .vw []]
    (fun r H => r = .bool (decide (0 < wd)) ∧ H = [.vw [.int .i64 wd, .int .i64 mo, .bool nn, .lst 1 k], .vw []]) := by
  refine Spec_of_xX (D := fun _ => (0, [])) (ks := [0, 2]) tok mixed (fn := f34) rfl rfl rfl (by kernel_rfl) (N := 12) rfl (rs := [.tmp 2]) rfl (by show 1 ≤ 12; omega) fun A C ag L q hA hC hag hL hq => ?_
  cbv
  subst hA hq
  exact ⟨rfl, rfl⟩

/-- What Lit answers, what is told behind it. -/
def LitQ (mo c : Int) (xs : List Int) (e : Int) (ys : List Int) : Prop := ((xs.length : Int) = mo ∧ e = 9 ∧ ys = xs) ∨ ((xs.length : Int) ≠ mo ∧ e = 0 ∧ ys = xs ++ [c])

theorem s_lit (wd mo c : Int) (n : Nat) (nn : Bool) (xs : List Int) (hn : n = xs.length) (hl : xs.length ≤ 100000000000) (hw : 0 < wd) : Spec prog 53 [.ptr 0 0, .int .u8 c] [.box 74 [.int .i64 wd, .int .i64 mo, .bool nn, .lst 1 n], .lst 5 1 (R.ints .u8 xs)]
    (fun r H => ∃ (e : Int) (k : Nat) (ys : List Int), LitQ mo c xs e ys ∧ k = ys.length ∧ r = .int .i64 e ∧ H = [.box 74 [.int .i64 wd, .int .i64 mo, .bool nn, .lst 2 k], .gone, .lst 5 1 (R.ints .u8 ys)]) := by
  refine Spec_of_xF (D := fun i => if i = 3 then (9, []) else (0, [])) (ks := [0, 1, 4]) tok mixed (fn := f53) rfl rfl rfl (by kernel_rfl) (N := 30) rfl (rs := [.tmp 4]) rfl (by show 2 ≤ 30; omega) fun A C ag L fi hA hC hag hL hfi => ?_
  rw [← hA]
  cbv
  refine cal_vw hC (s_ok wd mo 0 n nn) [(0, 0, false), (1, 0, false)] rfl (matchV2 ⟨trivial, trivial, trivial, (show 1 < 2 by omega), trivial⟩ ⟨trivial, trivial, trivial, rfl, trivial⟩ rfl rfl (by simp)) ⟨⟨(show 0 < 2 by omega), trivial, rfl⟩, trivial⟩ rfl ?_
  rw [decide_eq_true hw]
  cbv
  refine ifB_intro (fun h => ?_) (fun h => ?_)
  · subst hA; exact absurd h (by decide)
  cbv
  refine ifB_intro (fun h' => ?_) (fun h' => ?_)
  · cbv
    subst hA hfi
    have h' : (n : Int) = mo := by
      have h' : ((n : Int) == mo) = true := h'
      simpa using h'
    refine Fin_of ⟨[(4, .int .i64 9)], [.box 74 [.int .i64 wd, .int .i64 mo, .bool nn, .lst 2 n], .gone, .lst 5 1 (R.ints .u8 xs)]⟩
      (Sub_of [0, 1, 1] (by simp [sigOk, ndG]) (by simp) ⟨fun _ => rfl, (by simp), ⟨⟨trivial, trivial, trivial, (show 2 < 3 by omega), trivial⟩, rfl⟩, fun _ => rfl, (by simp), trivial, fun h => absurd h (by simp), (by simp), subC_ints rfl, trivial⟩ ⟨.inr ⟨trivial, rfl⟩, trivial⟩) ?_
    exact ⟨9, n, xs, .inl ⟨by omega, rfl, rfl⟩, hn, rfl, rfl⟩
  · cbv
    have ha := apdA1 hA .u8 xs c
    refine ⟨?_, ?_, ?_⟩
    · subst hA
      show (R.ints .u8 xs).length = n * 1
      rw [R_ints_length]; omega
    · subst hA
      show (n + 1) * 1 ≤ room
      unfold room; omega
    subst hA hfi
    have h' : (n : Int) ≠ mo := by
      have h' : ((n : Int) == mo) = false := h'
      simpa using h'
    refine Fin_of ⟨[(4, .int .i64 0)], [.box 74 [.int .i64 wd, .int .i64 mo, .bool nn, .lst 2 (n + 1)], .gone, .lst 5 1 (R.ints .u8 (xs ++ [c]))]⟩
      (Sub_of [0, 1, 3] (by simp [sigOk, ndG]) (by simp) ⟨fun _ => rfl, (by simp), ⟨⟨trivial, trivial, trivial, (show 2 < 3 by omega), trivial⟩, rfl⟩, fun _ => rfl, (by simp), trivial, fun h => absurd h (by simp), (by simp), subC_ints (congrArg (fun l => some (Ck.lst 5 1 l)) ha), trivial⟩ ⟨.inr ⟨trivial, rfl⟩, trivial⟩) ?_
    exact ⟨0, n + 1, xs ++ [c], .inr ⟨by omega, rfl, rfl⟩, by simp [hn], rfl, rfl⟩
end Go.Sx

/- hist: the other contracts, calls of them, and that anything is told at all. -/
set_option maxRecDepth 100000
set_option maxHeartbeats 4000000
set_option linter.unusedVariables false
set_option linter.unusedSimpArgs false
namespace Go.Sx
open Go.Proofs.Try

theorem s_new (wd mo : Int) (nn : Bool) (hw : 1 ≤ wd ∧ wd ≤ 65536) (hm : 0 ≤ mo) : Spec prog 19 [.int .i64 wd, .int .i64 mo, .bool nn] []
    (fun r H => r = .tup [.ptr 0 0, .int .i64 0] ∧ H = [.box 74 [.int .i64 wd, .int .i64 mo, .bool nn, .lst 1 0], .lst 5 1 []]) := by
  refine Spec_of_xF (D := fun _ => (0, [])) (ks := [0, 1, 2, 6, 7]) tok mixed (fn := f19) rfl rfl rfl (by kernel_rfl) (N := 23) rfl (rs := [.tmp 6, .tmp 7]) rfl (by show 3 ≤ 23; omega) fun A C ag L fi hA hC hag hL hfi => ?_
  cbv
  refine ifB_intro (fun h => ?_) (fun h => ?_)
  · exfalso; subst hA; have h : wd < 1 := of_decide_eq_true h; omega
  rw [h]
  clear h
  cbv
  refine ifB_intro (fun h => ?_) (fun h => ?_)
  · exfalso; subst hA; have h : 65536 < wd := of_decide_eq_true h; omega
  rw [h]
  clear h
  cbv
  refine ifB_intro (fun h => ?_) (fun h => ?_)
  · exfalso; subst hA; have h : mo < 0 := of_decide_eq_true h; omega
  clear h
  cbv
  subst hfi
  refine Fin_of _ (Sub_nil (h := 0) (j := 3) (T := 74) (e := 5) (sz := 1) rfl rfl) ?_
  exact ⟨rfl, rfl⟩

theorem s_newbad (wd mo : Int) (nn : Bool) (hw : wd < 1 ∨ 65536 < wd ∨ mo < 0) : Spec prog 19 [.int .i64 wd, .int .i64 mo, .bool nn] [] (fun r H => r = .tup [.nilP, .int .i64 2] ∧ H = []) := by
  refine Spec_of_xX (D := fun _ => (0, [])) (ks := [0, 1, 2, 6, 7]) tok mixed (fn := f19) rfl rfl rfl (by kernel_rfl) (N := 23) rfl (rs := [.tmp 6, .tmp 7]) rfl (by show 3 ≤ 23; omega) fun A C ag L q hA hC hag hL hq => ?_
  cbv
  refine ifB_intro (fun h => ?_) (fun h => ?_)
  · rw [h]; cbv; subst hq; exact ⟨rfl, rfl⟩
  have h1 : ¬ wd < 1 := by subst hA; exact of_decide_eq_false h
  rw [h]
  clear h
  cbv
  refine ifB_intro (fun h => ?_) (fun h => ?_)
  · rw [h]; cbv; subst hq; exact ⟨rfl, rfl⟩
  have h2 : ¬ 65536 < wd := by subst hA; exact of_decide_eq_false h
  rw [h]
  clear h
  cbv
  refine ifB_intro (fun h => ?_) (fun h => ?_)
  · cbv; subst hq; exact ⟨rfl, rfl⟩
  exfalso; subst hA; have h : ¬ mo < 0 := of_decide_eq_false h; omega


theorem s_full (wd mo : Int) (k : Nat) (nn : Bool) (hw : 0 < wd) : Spec prog 22 [.ptr 0 0] [.vw [.int .i64 wd, .int .i64 mo, .bool nn, .lst 1 k], .vw []]
    (fun r H => r = .bool (R.cmp .eql (R.nat k) mo) ∧ H = [.vw [.int .i64 wd, .int .i64 mo, .bool nn, .lst 1 k], .vw []]) := by
  refine Spec_of_xX (D := fun i => if i = 1 then (12, []) else (0, [])) (ks := [0, 2]) tok mixed (fn := f22) rfl rfl rfl (by kernel_rfl) (N := 17) rfl (rs := [.tmp 2]) rfl (by show 1 ≤ 17; omega) fun A C ag L q hA hC hag hL hq => ?_
  cbv
  refine cal_vw hC (s_ok wd mo 0 k nn) [(0, 0, false), (1, 0, false)] rfl (matchVV2 ⟨trivial, trivial, trivial, (show 1 < 2 by omega), trivial⟩ ⟨trivial, trivial, trivial, rfl, trivial⟩ rfl rfl (by simp)) ⟨⟨(show 0 < 2 by omega), trivial, rfl⟩, trivial⟩ rfl ?_
  rw [decide_eq_true hw]
  cbv
  subst hA hq
  exact ⟨rfl, rfl⟩

theorem s_bytes (wd mo : Int) (k : Nat) (nn : Bool) (xs : List Int) (hk : k = xs.length) (hl : xs.length ≤ 1000000000000) (hw : 0 < wd) : Spec prog 25 [.ptr 0 0] [.vw [.int .i64 wd, .int .i64 mo, .bool nn, .lst 1 k], .vw (R.ints .u8 xs)]
    (fun r H => r = .lst 3 k ∧ H = [.vw [.int .i64 wd, .int .i64 mo, .bool nn, .lst 1 k], .vw (R.ints .u8 xs), .gone, .lst 5 1 (R.ints .u8 xs)]) := by
  refine Spec_of_xX (D := fun i => (0, [])) (ks := [0, 2]) tok mixed (fn := f25) rfl rfl rfl (by kernel_rfl) (N := 11) rfl (rs := [.tmp 2]) rfl (by show 1 ≤ 11; omega) fun A C ag L q hA hC hag hL hq => ?_
  have hS := s_clone xs k hk hl
  rw [← hA] at hS ⊢
  cbv
  refine cal_vw hC (s_ok wd mo 0 k nn) [(0, 0, false), (1, 0, false)] rfl (matchVV2 ⟨trivial, trivial, trivial, (show 1 < 2 by omega), trivial⟩ ⟨trivial, trivial, trivial, rfl, trivial⟩ rfl rfl (by simp)) ⟨⟨(show 0 < 2 by omega), trivial, rfl⟩, trivial⟩ rfl ?_
  rw [decide_eq_true hw]
  cbv
  refine ifB_intro (fun h => ?_) (fun h => ?_)
  · subst hA; exact absurd h (by decide)
  cbv
  refine cal_of hC hS [(1, 0, false)] ⟨by simp, trivial⟩ ⟨hLtsA hA .., zOksA hA .., ?_, trivial⟩ ⟨⟨(show 0 < 1 by omega), rfl, rfl, rfl, rfl⟩, trivial⟩ ?_
  · rw [renA hA, cellsAt_eq rfl (by simp [Ck.cells])]
    simp [Ck.cells]
  rintro _ _ ⟨rfl, rfl⟩
  refine ⟨_, _, [.vw [.int .i64 wd, .int .i64 mo, .bool nn, .lst 1 k], .vw (A.ints .u8 xs), .gone, .lst 5 1 (A.ints .u8 xs)], rfl, rfl, ?_, ?_⟩
  · simp only [backH, List.map_cons, List.map_nil, renCk, renA hA]
    rfl
  cbv
  subst hA hq
  exact ⟨rfl, rfl⟩
end Go.Sx

/- hist: calls of its functions; that anything is told at all; whether rows are the same. -/
set_option maxRecDepth 100000
set_option maxHeartbeats 4000000
set_option linter.unusedVariables false
set_option linter.unusedSimpArgs false
namespace Go.Sx
open Go.Proofs.Try

theorem backH3 {A : Ar} (hA : A = R) {T e : Nat} {k : IntKind} {xs : List Int} {g : Nat → Nat × Nat} {cs cs' : List SV} {sH : List Ck} {hb hr : Nat} (h3 : cs.map (renC g) = cs') :
    backH g [(hb, 0, true), (hr, 0, true)] [.box T cs, .gone, .lst e 1 (A.ints k xs)] sH = apd (set1 (set1 sH hb (.box T cs')) hr .gone) [.lst e 1 (A.ints k xs)] := by
  rw [apd_eq, set1_eq, set1_eq]
  simp only [backH, List.map_cons, List.map_nil, renCk, h3, renA hA, setAll, List.length_cons, List.length_nil, List.drop_succ_cons, List.drop_zero]

section
variable {A : Ar} {C : CallT} {xs : List Int} {wd mo : Int} {nn : Bool} {k hb hr : Nat} {s : St} {κ : List Nat → SV → List Ck → Prop}

theorem call_lit (hC : C = CallX prog) (hA : A = R) {c : Int} (hn : k = xs.length) (hl : xs.length ≤ 100000000000) (hw : 0 < wd) (hne : hb ≠ hr) (h4 : s.H[hb]? = some (.box 74 [.int .i64 wd, .int .i64 mo, .bool nn, .lst hr k])) (h5 : s.H[hr]? = some (.lst 5 1 (A.ints .u8 xs)))
    (hk : ∀ (e : Int) (k : Nat) (ys : List Int), LitQ mo c xs e ys → k = ys.length →
      κ [hb, hr] (.int .i64 e) (apd (set1 (set1 s.H hb (.box 74 [.int .i64 wd, .int .i64 mo, .bool nn, .lst (len1 s.H) k])) hr .gone) [.lst 5 1 (A.ints .u8 ys)])) : C 53 [.ptr hb 0, .int .u8 c] s κ := by
  have hS := s_lit wd mo c k nn xs hn hl hw
  rw [← hA] at hS
  refine cal_of hC hS [(hb, 0, true), (hr, 0, true)] ⟨by simp [hne], by simp, trivial⟩ (matchH2 hA ⟨trivial, trivial, trivial, (show 1 < 2 by omega), trivial⟩ ⟨trivial, trivial, trivial, rfl, trivial⟩ rfl h4 h5) ⟨⟨(show 0 < 2 by omega), trivial, rfl⟩, ⟨trivial, trivial, rfl⟩, trivial⟩ ?_
  rintro _ _ ⟨e, k', ys, hQ, hk', rfl, rfl⟩
  refine ⟨_, _, _, rfl, rfl, backH3 hA rfl, ?_⟩
  have := hk e k' ys hQ hk'
  rw [len1_eq] at this
  exact this

theorem call_full (hC : C = CallX prog) (hA : A = R) (hw : 0 < wd) (h4 : s.H[hb]? = some (.box 74 [.int .i64 wd, .int .i64 mo, .bool nn, .lst hr k])) (hr' : hr < s.H.length) (hk : κ [] (.bool (A.cmp .eql (A.nat k) mo)) s.H) : C 22 [.ptr hb 0] s κ := by
  subst hA
  exact cal_vw hC (s_full wd mo k nn hw) [(hb, 0, false), (hr, 0, false)] rfl (matchV2 ⟨trivial, trivial, trivial, (show 1 < 2 by omega), trivial⟩ ⟨trivial, trivial, trivial, rfl, trivial⟩ rfl h4 hr') ⟨⟨(show 0 < 2 by omega), trivial, rfl⟩, trivial⟩ rfl hk

theorem call_bytes (hC : C = CallX prog) (hA : A = R) (hn : k = xs.length) (hl : xs.length ≤ 1000000000000) (hw : 0 < wd) (h4 : s.H[hb]? = some (.box 74 [.int .i64 wd, .int .i64 mo, .bool nn, .lst hr k])) (h5 : s.H[hr]? = some (.lst 5 1 (A.ints .u8 xs)))
    (hk : κ [] (.lst (len1 s.H + 1) k) (apd s.H [.gone, .lst 5 1 (A.ints .u8 xs)])) : C 25 [.ptr hb 0] s κ := by
  have hS := s_bytes wd mo k nn xs hn hl hw
  rw [← hA] at hS
  refine cal_of hC hS [(hb, 0, false), (hr, 0, false)] ⟨by simp, by simp, trivial⟩ ⟨⟨trivial, trivial, trivial, (show 1 < 2 by omega), trivial⟩, ⟨trivial, trivial, trivial, rfl, trivial⟩, ?_, hLtsA hA .., zOksA hA .., ?_, trivial⟩ ⟨⟨(show 0 < 2 by omega), trivial, rfl⟩, trivial⟩ ?_
  · rw [cellsAt_eq h4 (by simp [Ck.cells])]; rfl
  · rw [renA hA, cellsAt_eq h5 (by simp [Ck.cells])]; simp [Ck.cells]
  rintro _ _ ⟨rfl, rfl⟩
  refine ⟨_, _, s.H ++ [.gone, .lst 5 1 (A.ints .u8 xs)], rfl, rfl, ?_, ?_⟩
  · simp only [backH, List.map_cons, List.map_nil, renCk, renA hA]
    rfl
  · rw [len1_eq, apd_eq] at hk
    exact hk

theorem call_new (hC : C = CallX prog) (hA : A = R) (hw : 1 ≤ wd ∧ wd ≤ 65536) (hm : 0 ≤ mo)
    (hk : κ [] (.tup [.ptr (len1 s.H) 0, .int .i64 0]) (apd s.H [.box 74 [.int .i64 wd, .int .i64 mo, .bool nn, .lst (len1 s.H + 1) 0], .lst 5 1 (A.ints .u8 [])])) : C 19 [.int .i64 wd, .int .i64 mo, .bool nn] s κ := by
  refine cal_of hC (s_new wd mo nn hw hm) [] trivial trivial ⟨⟨trivial, trivial, rfl⟩, ⟨trivial, trivial, rfl⟩, ⟨trivial, trivial, rfl⟩, trivial⟩ ?_
  rintro _ _ ⟨rfl, rfl⟩
  refine ⟨_, _, s.H ++ [.box 74 [.int .i64 wd, .int .i64 mo, .bool nn, .lst (s.H.length + 1) 0], .lst 5 1 (A.ints .u8 [])], rfl, rfl, ?_, ?_⟩
  · subst hA; rfl
  · rw [len1_eq, apd_eq] at hk
    exact hk
end

end Go.Sx

/- The writer: Align, PutBytes, Bytes, Len, New. -/
set_option maxRecDepth 100000
set_option maxHeartbeats 4000000
set_option linter.unusedVariables false
set_option linter.unusedSimpArgs false
namespace Go.Sx
open Go.Proofs.Try

section
variable {A : Ar} {C : CallT} {W : Int} {P k n hb hr : Nat} {ys : List Int} {hold nI : Int} {s : St} {κ : List Nat → SV → List Ck → Prop}

theorem call_put (hC : C = CallX prog) (hA : A = R) {x kI : Int} (hF : WF W P ys k n hold nI) (hn : n < 8) (hx : 0 ≤ x ∧ x < 4294967296) (hl : ys.length ≤ 10000000000) (hne : hb ≠ hr)
    (h4 : s.H[hb]? = some (.box 94 [.lst hr k, .int .u64 hold, .int .i64 nI])) (h5 : s.H[hr]? = some (.lst 5 1 (A.ints .u8 ys)))
    (hk : ∀ (ys : List Int) (k n : Nat) (hold nI : Int), WF (W + 2 ^ P * (x % 2 ^ PutN kI)) (P + PutN kI) ys k n hold nI → n < 8 →
      κ [hb, hr] (.tup []) (apd (set1 (set1 s.H hb (.box 94 [.lst (len1 s.H) k, .int .u64 hold, .int .i64 nI])) hr .gone) [.lst 5 1 (A.ints .u8 ys)])) : C 66 [.ptr hb 0, .int .u32 x, .int .i64 kI] s κ := by
  have hS := s_put W P k n ys hold nI x kI hF hn hx hl
  rw [← hA] at hS
  refine cal_of hC hS [(hb, 0, true), (hr, 0, true)] ⟨by simp [hne], by simp, trivial⟩ (matchH2 hA ⟨(show 1 < 2 by omega), trivial, trivial, trivial⟩ ⟨rfl, trivial, trivial, trivial⟩ rfl h4 h5) ⟨⟨(show 0 < 2 by omega), trivial, rfl⟩, ⟨trivial, trivial, rfl⟩, ⟨trivial, trivial, rfl⟩, trivial⟩ ?_
  rintro _ _ ⟨rfl, ys', k', n', hold', nI', hF', hn', rfl⟩
  refine ⟨_, _, _, rfl, rfl, backH3 hA rfl, ?_⟩
  have := hk ys' k' n' hold' nI' hF' hn'
  rw [len1_eq] at this
  exact this
end

section
variable {A : Ar} {C : CallT} {W : Int} {P k n hb hr : Nat} {ys : List Int} {hold nI : Int} {s : St} {κ : List Nat → SV → List Ck → Prop}
end

end Go.Sx

/- The law of copies over and over: its walk. -/
set_option maxRecDepth 100000
set_option maxHeartbeats 4000000
set_option linter.unusedVariables false
set_option linter.unusedSimpArgs false
namespace Go.Sx
open Go.Proofs.Try

section
variable {A : Ar} {C : CallT} {xs ys : List Int} {a b : Nat} {s : St} {κ : List Nat → SV → List Ck → Prop}
theorem call_cut (hC : C = CallX prog) (hA : A = R) {hb m : Nat} {n : Int} {bs : List Int} (h0 : 0 ≤ n) (h4 : s.H[hb]? = some (.vw (A.ints .u8 bs))) (hm : m = bs.length) (hk : ∀ k : Nat, k = min m n.toNat → κ [] (.sl hb 0 k false) s.H) : C 8 [.sl hb 0 m false, .int .i64 n] s κ := by
  have hcut := s_cut bs m n h0
  rw [← hA] at hcut
  refine cal_of hC hcut [(hb, 0, false)] ⟨by simp, trivial⟩ ⟨hLtsA hA .., zOksA hA .., ?_, trivial⟩ ⟨⟨(show 0 < 1 by omega), rfl, rfl, rfl⟩, ⟨trivial, trivial, rfl⟩, trivial⟩ ?_
  · rw [renA hA, cellsAt_eq h4 (by simp [Ck.cells])]
    simp [Ck.cells]
  rintro _ _ ⟨k, hkk, rfl, rfl⟩
  refine ⟨_, _, s.H, rfl, rfl, ?_, hk k hkk⟩
  simp [backH, setAll]
end

end Go.Sx

/- lzw: LzwClears. -/
set_option maxRecDepth 100000
set_option maxHeartbeats 4000000
set_option linter.unusedVariables false
set_option linter.unusedSimpArgs false
namespace Go.Sx
open Go.Proofs.Try

def b2i (b : Bool) : Int := if b then 1 else 0
/-- The links of the codes below j. -/
structure HdQ (ps es : List Int) (j : Nat) (rs bs : List (List Int)) : Prop where
  rl : rs.length = j
  bl : bs.length = j
  at_ : ∀ q, q < j → ∃ p c b, LkQ ps es (q : Int) p c b ∧ rs.getD q [] = [p, c] ∧ bs.getD q [] = [b2i b]
theorem HdQ.step {ps es : List Int} {j : Nat} {rs bs : List (List Int)} (h : HdQ ps es j rs bs) {p c : Int} {b : Bool} {i : Int} (hi : i = (j : Int)) (hQ : LkQ ps es i p c b) : HdQ ps es (j + 1) (rs ++ [[p, c]]) (bs ++ [[b2i b]]) := by
  refine ⟨by rw [List.length_append, h.rl]; rfl, by rw [List.length_append, h.bl]; rfl, fun q hq => ?_⟩
  rcases Nat.lt_or_ge q j with hlt | hge
  · obtain ⟨p', c', b', h1, h2, h3⟩ := h.at_ q hlt
    refine ⟨p', c', b', h1, ?_, ?_⟩
    · rw [List.getD, List.getElem?_append_left (by rw [h.rl]; exact hlt), ← List.getD, h2]
    · rw [List.getD, List.getElem?_append_left (by rw [h.bl]; exact hlt), ← List.getD, h3]
  · have : q = j := by omega
    subst this
    refine ⟨p, c, b, by rw [← hi]; exact hQ, ?_, ?_⟩
    · rw [List.getD, List.getElem?_append_right (by rw [h.rl]; exact hge), h.rl, Nat.sub_self]; rfl
    · rw [List.getD, List.getElem?_append_right (by rw [h.bl]; exact hge), h.bl, Nat.sub_self]; rfl

/-- Somebody below kq has i as its parent. -/
def PaQ (ps : List Int) (i : Int) (kq : Nat) (pa : Bool) : Prop := pa = true ↔ ∃ q, 257 ≤ q ∧ q < kq ∧ ps.getD q 0 ≠ -1 ∧ ps.getD q 0 = i
theorem PaQ.keep {ps : List Int} {i : Int} {kq : Nat} (h : PaQ ps i kq true) : PaQ ps i (kq + 1) true := ⟨fun _ => by obtain ⟨q, q1, q2, q3⟩ := h.1 rfl; exact ⟨q, q1, by omega, q3⟩, fun _ => rfl⟩
end Go.Sx

/- lzw: the document's own table (10): where a code stands. -/
set_option maxRecDepth 100000
set_option maxHeartbeats 4000000
set_option linter.unusedVariables false
set_option linter.unusedSimpArgs false
namespace Go.Sx
open Go.Proofs.Try

def rcode (rs : List (List Int)) (k : Nat) : Int := (rs.getD k []).getD 0 0
/-- By rising codes. -/
def Rising (rs : List (List Int)) : Prop := ∀ a b, a < b → b < rs.length → rcode rs a < rcode rs b
def AtQ (rs : List (List Int)) (code a : Int) : Prop := (∃ k : Nat, k < rs.length ∧ rcode rs k = code ∧ a = (k : Int)) ∨ (a = -1 ∧ ∀ k, k < rs.length → rcode rs k ≠ code)
def hasR (rs : List (List Int)) (c : Int) : Prop := ∃ k, k < rs.length ∧ rcode rs k = c
section
variable {A : Ar} {C : CallT} {s : St} {κ : List Nat → SV → List Ck → Prop} {rs : List (List Int)} {cs : List SV} {k h0 h1 : Nat} {last : Int}
end
/-- The least code that has no row. -/
def XnQ (rs : List (List Int)) (last n : Int) : Prop := (n = -1 ∧ ∀ c, last < c → c < 8192 → hasR rs c) ∨ (last < n ∧ n < 8192 ∧ ¬ hasR rs n ∧ ∀ c, last < c → c < n → hasR rs c)
end Go.Sx

/- lzw: the document's own table (10): New, Child. -/
set_option maxRecDepth 100000
set_option maxHeartbeats 4000000
set_option linter.unusedVariables false
set_option linter.unusedSimpArgs false
namespace Go.Sx
open Go.Proofs.Try

/-- A row's parent, its end. -/
def rpar (rs : List (List Int)) (k : Nat) : Int := (rs.getD k []).getD 1 0
def rend (rs : List (List Int)) (k : Nat) : Int := (rs.getD k []).getD 2 0
end Go.Sx

/- lzw: the document's own table (10): a code's string. -/
set_option maxRecDepth 100000
set_option maxHeartbeats 4000000
set_option linter.unusedVariables false
set_option linter.unusedSimpArgs false
namespace Go.Sx
open Go.Proofs.Try

/-- Where a code's row stands. -/
def xat (rs : List (List Int)) (c : Int) : Option Nat := (List.range rs.length).find? fun k => rcode rs k == c
theorem AtQ.xat {rs : List (List Int)} {c a : Int} (hR : Rising rs) (h : AtQ rs c a) : (a = -1 ∧ xat rs c = none) ∨ ∃ k : Nat, k < rs.length ∧ a = (k : Int) ∧ Sx.xat rs c = some k ∧ rcode rs k = c := by
  rcases h with ⟨k, h1, h2, h3⟩ | ⟨h1, h2⟩
  · refine .inr ⟨k, h1, h3, ?_, h2⟩
    unfold Sx.xat
    cases hf : (List.range rs.length).find? fun k => rcode rs k == c with
    | none =>
      have := List.find?_eq_none.1 hf k (List.mem_range.2 h1)
      simp [h2] at this
    | some q =>
      have hq := List.find?_some hf
      have hm := List.mem_range.1 (List.mem_of_find?_eq_some hf)
      have hq : rcode rs q = c := by simpa using hq
      rcases Nat.lt_trichotomy q k with hlt | he | hlt
      · have := hR q k hlt h1; omega
      · rw [he]
      · have := hR k q hlt hm; omega
  · refine .inl ⟨h1, ?_⟩
    unfold Sx.xat
    exact List.find?_eq_none.2 fun k hk => by simpa using h2 k (List.mem_range.1 hk)
/-- A code's string, over so many rows. -/
def xtxt (rs : List (List Int)) : Nat → Int → Option (List Int)
  | 0, _ => none
  | f + 1, c => if 0 ≤ c ∧ c < 256 then some [c] else match xat rs c with
    | none => none
    | some k => (xtxt rs f (rpar rs k)).map fun t => t ++ [rend rs k]

def XtQ (rs : List (List Int)) (code : Int) (t : List Int) (b : Bool) : Prop := (xtxt rs (rs.length + 1) code = some t ∧ b = true) ∨ (xtxt rs (rs.length + 1) code = none ∧ b = false ∧ t = [])
end Go.Sx

/- lzw: the table and the document's rows. -/
set_option maxRecDepth 100000
set_option maxHeartbeats 4000000
set_option linter.unusedVariables false
set_option linter.unusedSimpArgs false
namespace Go.Sx
open Go.Proofs.Try

/-- Rows that are a table's links. -/
structure RelT (ps es : List Int) (rs : List (List Int)) : Prop where
  ris : Rising rs
  cod : ∀ c, hasR rs c ↔ hasL ps c
  row : ∀ k, k < rs.length → rpar rs k = ps.getD (rcode rs k).toNat 0 ∧ rend rs k = es.getD (rcode rs k).toNat 0
theorem RelT.next {ps es : List Int} {rs : List (List Int)} {last n : Int} (h : RelT ps es rs) (hl : 256 ≤ last) (hn : XnQ rs last n) : NxQ ps last n := by
  rcases hn with ⟨h1, h2⟩ | ⟨h1, h2, h3, h4⟩
  · exact .inl ⟨h1, fun q q1 q2 => ((h.cod q).1 (h2 q q1 (by omega))).2.2⟩
  · refine .inr ⟨n.toNat, by omega, h1, by omega, ?_, fun q q1 q2 => ((h.cod q).1 (h4 q q1 (by omega))).2.2⟩
    rcases Classical.em (ps.getD n.toNat 0 = -1) with h5 | h5
    · exact h5
    · exact absurd ((h.cod n).2 ⟨by omega, by omega, h5⟩) h3
/-- The same place. -/
theorem RelT.at_ {ps es : List Int} {rs : List (List Int)} (h : RelT ps es rs) (c : Int) : (xat rs c = none ∧ ¬ hasL ps c) ∨ ∃ k, xat rs c = some k ∧ hasL ps c ∧ rpar rs k = ps.getD c.toNat 0 ∧ rend rs k = es.getD c.toNat 0 := by
  rcases Classical.em (hasR rs c) with ⟨k, h1, h2⟩ | hn
  · have hA : AtQ rs c (k : Int) := .inl ⟨k, h1, h2, rfl⟩
    rcases hA.xat h.ris with ⟨h3, _⟩ | ⟨q, h3, h4, h5, h6⟩
    · omega
    · have hr := h.row q h3
      rw [h6] at hr
      exact .inr ⟨q, h5, (h.cod c).1 ⟨k, h1, h2⟩, hr.1, hr.2⟩
  · refine .inl ⟨?_, fun hh => hn ((h.cod c).2 hh)⟩
    have hA : AtQ rs c (-1) := .inr ⟨rfl, fun k hk he => hn ⟨k, hk, he⟩⟩
    rcases hA.xat h.ris with ⟨_, h4⟩ | ⟨q, h3, h4, _⟩
    · exact h4
    · omega
theorem RelT.txt {ps es : List Int} {rs : List (List Int)} (h : RelT ps es rs) : ∀ (f : Nat) (c : Int), xtxt rs f c = Sx.txt ps es f c
  | 0, _ => rfl
  | f + 1, c => by
    rw [xtxt, Sx.txt]
    by_cases h1 : 0 ≤ c ∧ c < 256
    · rw [if_pos h1, if_neg (by omega), if_pos h1.2]
    · rw [if_neg h1]
      rcases h.at_ c with ⟨h2, h3⟩ | ⟨k, h2, ⟨h3, h4, h5⟩, h6, h7⟩
      · rw [h2]
        by_cases h4 : c < 0 ∨ 8192 ≤ c ∨ c = 256
        · rw [if_pos h4]
        · rw [if_neg h4, if_neg (by omega)]
          have h5 : ps.getD c.toNat 0 = -1 := by
            rcases Classical.em (ps.getD c.toNat 0 = -1) with h8 | h8
            · exact h8
            · exact absurd ⟨by omega, by omega, h8⟩ h3
          rw [h5]
          cases f with
          | zero => rfl
          | succ f => rw [Sx.txt, if_pos (by omega)]; rfl
      · rw [h2, if_neg (by omega), if_neg (by omega)]
        show (xtxt rs f (rpar rs k)).map (fun t => t ++ [rend rs k]) = _
        rw [h6, h7, ← h.txt f]
end Go.Sx

/- lzw: plain laws: the table and the document's rows behind calls. -/
set_option maxRecDepth 100000
set_option maxHeartbeats 4000000
set_option linter.unusedVariables false
set_option linter.unusedSimpArgs false
namespace Go.Sx
open Go.Proofs.Try

/-! Rows by members. -/
theorem hasR_mem {rs : List (List Int)} {c : Int} : hasR rs c ↔ ∃ r, r ∈ rs ∧ r.getD 0 0 = c := by
  refine ⟨fun ⟨k, hk, h⟩ => ⟨rs.getD k [], ?_, h⟩, fun ⟨r, hr, h⟩ => ?_⟩
  · rw [List.getD, List.getElem?_eq_getElem hk]; exact List.getElem_mem hk
  · obtain ⟨k, hk, rfl⟩ := List.getElem_of_mem hr
    refine ⟨k, hk, ?_⟩
    unfold rcode
    rw [show rs.getD k [] = rs[k] by rw [List.getD, List.getElem?_eq_getElem hk]; rfl]
    exact h
theorem Rising_pw {rs : List (List Int)} : Rising rs ↔ rs.Pairwise (fun r r' => r.getD 0 0 < r'.getD 0 0) := by
  rw [List.pairwise_iff_getElem]
  have e : ∀ k (hk : k < rs.length), rcode rs k = rs[k].getD 0 0 := fun k hk => by
    unfold rcode
    rw [show rs.getD k [] = rs[k] by rw [List.getD, List.getElem?_eq_getElem hk]; rfl]
  refine ⟨fun h i j hi hj hij => ?_, fun h a b hab hb => ?_⟩
  · rw [← e i hi, ← e j hj]; exact h i j hij hj
  · rw [e a (by omega), e b hb]; exact h a b (by omega) hb hab
theorem nd_le {α : Type} [DecidableEq α] : ∀ (L M : List α), L.Nodup → (∀ x ∈ L, x ∈ M) → L.length ≤ M.length
  | [], M, _, _ => Nat.zero_le _
  | x :: L, M, hn, h => by
    obtain ⟨h1, h2⟩ := List.nodup_cons.1 hn
    have hx := h x (List.mem_cons_self ..)
    have := nd_le L (M.erase x) h2 fun y hy => (List.mem_erase_of_ne (fun e => h1 (by rw [← e]; exact hy))).2 (h y (List.mem_cons_of_mem _ hy))
    rw [List.length_erase_of_mem hx] at this
    have hp := List.length_pos_of_mem hx
    simp only [List.length_cons]
    omega
/-- The codes of rows. -/
def codesR (rs : List (List Int)) : List Int := rs.map fun r => r.getD 0 0
theorem codesR_nd {rs : List (List Int)} (h : Rising rs) : (codesR rs).Nodup := by
  unfold codesR List.Nodup
  rw [List.pairwise_map]
  exact (Rising_pw.1 h).imp fun hab => by omega
theorem codesR_mem {rs : List (List Int)} {c : Int} : c ∈ codesR rs ↔ hasR rs c := by
  rw [hasR_mem]
  unfold codesR
  rw [List.mem_map]
/-- The codes that have links. -/
def codesL (ps : List Int) : List Int := ((List.range ps.length).filter fun q => ps.getD q 0 != -1).map fun (q : Nat) => (q : Int)
theorem codesL_len (ps : List Int) : ((codesL ps).length : Int) = cnt ps := by
  unfold codesL cnt
  rw [List.length_map, ← List.countP_eq_length_filter]
  have : ∀ (l : List Int), (List.range l.length).countP (fun q => l.getD q 0 != -1) = l.countP (· != -1) := by
    intro l
    have e : l = (List.range l.length).map (fun q => l.getD q 0) := by
      refine List.ext_getElem (by simp) fun i h1 h2 => ?_
      simp [List.getD, h1]
    conv => rhs; rw [e]
    rw [List.countP_map]
    rfl
  rw [this]
theorem codesL_nd (ps : List Int) : (codesL ps).Nodup := by
  unfold codesL List.Nodup
  rw [List.pairwise_map]
  exact (List.nodup_range.filter _).imp fun hab => by omega
theorem codesL_mem {ps : List Int} (hl : ps.length = 8192) (h0 : ∀ q, q ≤ 256 → ps.getD q 0 = -1) {c : Int} : c ∈ codesL ps ↔ hasL ps c := by
  unfold codesL
  rw [List.mem_map]
  refine ⟨fun ⟨q, h1, h2⟩ => ?_, fun ⟨h1, h2, h3⟩ => ⟨c.toNat, ?_, by omega⟩⟩
  · rw [List.mem_filter, List.mem_range, hl] at h1
    have h3 : ps.getD q 0 ≠ -1 := by simpa using h1.2
    rcases Nat.lt_or_ge 256 q with h4 | h4
    · refine ⟨by omega, by omega, ?_⟩
      rw [show c.toNat = q by omega]; exact h3
    · exact absurd (h0 q h4) h3
  · rw [List.mem_filter, List.mem_range, hl]
    exact ⟨by omega, by simpa using h3⟩
/-- As many rows as links. -/
theorem RelT.count {ps es : List Int} {rs : List (List Int)} (h : RelT ps es rs) (hl : ps.length = 8192) (h0 : ∀ q, q ≤ 256 → ps.getD q 0 = -1) : (rs.length : Int) = cnt ps := by
  rw [← codesL_len]
  have e : rs.length = (codesR rs).length := by simp [codesR]
  have h1 := nd_le (codesR rs) (codesL ps) (codesR_nd h.ris) fun x hx => (codesL_mem hl h0).2 ((h.cod x).1 (codesR_mem.1 hx))
  have h2 := nd_le (codesL ps) (codesR rs) (codesL_nd ps) fun x hx => codesR_mem.2 ((h.cod x).2 ((codesL_mem hl h0).1 hx))
  omega

/-- Both tables behind the same calls. -/
structure PI (ps es : List Int) (m : List Int → Option Int) (last used : Int) (rs : List (List Int)) : Prop where
  zi : ZI ps es last used
  rel : RelT ps es rs
  ch : ∀ k, LeastQ ps es (fun q => ps.getD q 0 ≠ -1) 256 k (m k)
theorem PI.cnt {ps es : List Int} {m : List Int → Option Int} {last used : Int} {rs : List (List Int)} (h : PI ps es m last used rs) : (rs.length : Int) = used := by
  rw [h.zi.ct]; exact h.rel.count h.zi.zt.pl h.zi.lo
theorem PI.len {ps es : List Int} {m : List Int → Option Int} {last used : Int} {rs : List (List Int)} (h : PI ps es m last used rs) : rs.length ≤ 8192 := by
  have h1 := h.rel.count h.zi.zt.pl h.zi.lo
  have h2 := (cnt_bnd h.zi.zt.pl).2
  omega
/-! Strings. -/
theorem way_has {ps es : List Int} {k : Nat} {c : Int} {t : List Int} (h : txt ps es k c = some t) : ∀ x ∈ way ps k c, hasL ps (x : Int) := fun x hx => by
  obtain ⟨_, _, h3⟩ := way_spec h
  obtain ⟨h4, k', t', h5, _⟩ := h3 x hx
  refine ⟨by omega, by omega, fun e => ?_⟩
  cases k' with
  | zero => cases h5
  | succ k' =>
    rw [txt, if_neg (by omega), if_neg (by omega), e] at h5
    cases k' with
    | zero => cases h5
    | succ k' => rw [txt, if_pos (by omega)] at h5; cases h5
theorem RelT.short {ps es : List Int} {rs : List (List Int)} (h : RelT ps es rs) {k : Nat} {c : Int} {t : List Int} (ht : Sx.txt ps es k c = some t) : t.length ≤ rs.length + 1 := by
  obtain ⟨h1, h2, _⟩ := way_spec ht
  have h3 := way_has ht
  have h4 := nd_le ((way ps k c).map fun (x : Nat) => (x : Int)) (codesR rs) (by unfold List.Nodup; rw [List.pairwise_map]; exact h2.imp fun hab => by omega) fun x hx => by
    obtain ⟨y, hy, rfl⟩ := List.mem_map.1 hx
    exact codesR_mem.2 ((h.cod _).2 (h3 y hy))
  simp only [codesR, List.length_map] at h4
  omega
theorem RelT.texts {ps es : List Int} {rs : List (List Int)} (h : RelT ps es rs) (hl : rs.length ≤ 8192) {c : Int} {t t' : List Int} {b b' : Bool} (h1 : TxQ ps es c t b) (h2 : XtQ rs c t' b') : t = t' ∧ b = b' := by
  unfold XtQ at h2
  rw [h.txt] at h2
  rcases h1 with ⟨a1, a2⟩ | ⟨a1, a2, a3⟩
  · have := txt_fuel (m := rs.length + 1) a1 (h.short a1)
    rcases h2 with ⟨b1, b2⟩ | ⟨b1, _⟩
    · rw [this] at b1; cases b1; exact ⟨rfl, by rw [a2, b2]⟩
    · rw [this] at b1; cases b1
  · rcases h2 with ⟨b1, b2⟩ | ⟨b1, b2, b3⟩
    · have h3 := txt_short b1
      have := txt_fuel (m := 8192) b1 (by omega)
      rw [this] at a1; cases a1
    · exact ⟨by rw [a3, b3], by rw [a2, b2]⟩

/-! Children. -/
/-! Add. -/
/-! Clear. -/
end Go.Sx

/- shrink: what codes tell, plainly. -/
set_option maxRecDepth 100000
set_option maxHeartbeats 4000000
set_option linter.unusedVariables false
set_option linter.unusedSimpArgs false
namespace Go.Sx
open Go.Proofs.Try

/-- The next code that is given out. -/
def nextP (ps : List Int) (tl : Int) : Int :=
  match (List.range 8192).find? (fun (q : Nat) => decide (tl < (q : Int)) && ps.getD q 0 == -1) with
  | some q => (q : Int)
  | none => -1
theorem nextP_ok (ps : List Int) (tl : Int) (h : 256 ≤ tl) : NxQ ps tl (nextP ps tl) := by
  unfold nextP
  cases hf : (List.range 8192).find? (fun (q : Nat) => decide (tl < (q : Int)) && ps.getD q 0 == -1) with
  | none =>
    refine .inl ⟨rfl, fun q h1 h2 e => ?_⟩
    have := List.find?_eq_none.1 hf q (List.mem_range.2 h2)
    simp [h1] at this
    exact this (by simpa [List.getD] using e)
  | some q =>
    have h1 := List.find?_some hf
    have h2 := List.mem_range.1 (List.mem_of_find?_eq_some hf)
    simp only [Bool.and_eq_true, decide_eq_true_eq, beq_iff_eq] at h1
    refine .inr ⟨q, rfl, h1.1, h2, h1.2, fun r r1 r2 e => ?_⟩
    have h3 := List.find?_range_eq_some.1 hf
    have h4 := h3.2.2 r r2
    simp [r1] at h4
    exact h4 (by simpa [List.getD] using e)
theorem nextP_eq {ps : List Int} {tl n : Int} (h : 256 ≤ tl) (hn : NxQ ps tl n) : n = nextP ps tl := NxQ_uniq hn (nextP_ok ps tl h)

open Classical in
/-- Parents behind Clear. -/
noncomputable def clrP (ps : List Int) : List Int := (List.range 8192).map fun q => if kept ps q ∨ q ≤ 256 then ps.getD q 0 else -1
theorem clrP_at (ps : List Int) {q : Nat} (hq : q < 8192) : (kept ps q ∨ q ≤ 256 → (clrP ps).getD q 0 = ps.getD q 0) ∧ (¬ (kept ps q ∨ q ≤ 256) → (clrP ps).getD q 0 = -1) := by
  unfold clrP
  have hr : (List.range 8192)[q]? = some q := List.getElem?_range hq
  rw [List.getD, List.getElem?_map, hr]
  simp only [Option.map_some, Option.getD_some]
  exact ⟨fun h => by rw [if_pos h], fun h => by rw [if_neg h]⟩
theorem clrP_len (ps : List Int) : (clrP ps).length = 8192 := by simp [clrP]
theorem clrP_eq {ps ps' : List Int} (h : ClP ps 256 ps') : ps' = clrP ps := by
  obtain ⟨h1, h2⟩ := h
  refine List.ext_getElem (by rw [h1]; simp [clrP]) fun q q1 q2 => ?_
  have h3 := h2 q (by omega)
  have e : ps'.getD q 0 = ps'[q] := by simp [List.getD, q1]
  have e2 : (clrP ps).getD q 0 = (clrP ps)[q] := by simp [List.getD, q2]
  have h4 := clrP_at ps (q := q) (by omega)
  rw [← e, ← e2]
  rcases Classical.em (kept ps q ∨ q ≤ 256) with hk | hk
  · rw [h3.1 hk, h4.1 hk]
  · rw [h3.2 hk, h4.2 hk]
/-- Parents, ends, the last code behind Add. -/
def addP (ps es : List Int) (tl p c : Int) : List Int × List Int × Int :=
  if nextP ps tl < 0 ∨ p < 0 ∨ 8191 < p ∨ p = 256 then (ps, es, tl) else (ps.set (nextP ps tl).toNat p, es.set (nextP ps tl).toNat c, nextP ps tl)
theorem addP_eq {ps es ps' es' : List Int} {m m' : List Int → Option Int} {tl used p c n tl' used' : Int} (h : ZI ps es tl used) (hQ : AddQ ps es m tl used p c n ps' es' m' tl' used') : (ps', es', tl') = addP ps es tl p c := by
  have hla := h.zt.la
  unfold addP
  rcases hQ with ⟨_, h2, rfl, rfl, _, rfl, _⟩ | ⟨h1, h2, h3, h4, h5, rfl, rfl, rfl, _⟩
  · rw [if_pos]
    rcases h2 with h2 | h2 | h2 | h2
    · have := nextP_eq hla.1 h2; omega
    all_goals omega
  · have := nextP_eq hla.1 h1
    rw [← this, if_neg (by omega)]

/-- Add, with the children that are. -/
theorem AddQ_ex {ps es : List Int} {tl used p c : Int} (m : List Int → Option Int) (h : ZI ps es tl used) : ∃ n ps' es' m' tl' used', AddQ ps es m tl used p c n ps' es' m' tl' used' := by
  have hla := h.zt.la
  have hN := nextP_ok ps tl hla.1
  by_cases hb : nextP ps tl < 0 ∨ p < 0 ∨ 8192 ≤ p ∨ p = 256
  · refine ⟨-1, ps, es, m, tl, used, .inl ⟨rfl, ?_, rfl, rfl, rfl, rfl, rfl⟩⟩
    rcases hb with hb | hb | hb | hb
    · refine .inl ?_
      rcases hN with ⟨h1, h2⟩ | ⟨j, h1, _⟩
      · exact .inl ⟨rfl, h2⟩
      · omega
    all_goals omega
  · have key : ∃ m' : List Int → Option Int, ((m [p, c] = none ∨ (∃ v, m [p, c] = some v ∧ nextP ps tl < v)) ∧ (∀ k, m' k = if k = [p, c] then some (nextP ps tl) else m k) ∨ (∃ v, m [p, c] = some v ∧ v ≤ nextP ps tl) ∧ m' = m) := by
      cases hm : m [p, c] with
      | none => exact ⟨fun k => if k = [p, c] then some (nextP ps tl) else m k, .inl ⟨.inl rfl, fun k => rfl⟩⟩
      | some v =>
        rcases Int.lt_or_le (nextP ps tl) v with h1 | h1
        · exact ⟨fun k => if k = [p, c] then some (nextP ps tl) else m k, .inl ⟨.inr ⟨v, rfl, h1⟩, fun k => rfl⟩⟩
        · exact ⟨m, .inr ⟨⟨v, rfl, h1⟩, rfl⟩⟩
    obtain ⟨m', hm'⟩ := key
    exact ⟨nextP ps tl, _, _, m', nextP ps tl, used + 1, .inr ⟨hN, by omega, by omega, by omega, by omega, rfl, rfl, rfl, rfl, hm'⟩⟩
/-! ### Steps -/
structure Sm where
  p : Nat
  er : Int
  w : Int
  ps : List Int
  es : List Int
  tl : Int
  os : List Int
  la : Int
  st : Int
/-- A code is read. -/
def rdM (xs : List Int) (s : Sm) : Int × Sm :=
  if s.er ≠ 0 then (0, { s with st := s.st + 1 })
  else if 8 * (xs.length : Int) < s.p + s.w then (0, { s with er := 3, st := s.st + 1 })
  else (cut (V xs) s.p s.w.toNat, { s with p := s.p + s.w.toNat, st := s.st + 1 })
/-- Behind 256. -/
noncomputable def ctM (xs : List Int) (s : Sm) : Sm × Int :=
  if (rdM xs s).2.er ≠ 0 then ((rdM xs s).2, (rdM xs s).2.er)
  else if (rdM xs s).1 = 1 ∧ s.w < 13 then ({ (rdM xs s).2 with w := s.w + 1 }, 0)
  else if (rdM xs s).1 = 2 then ({ (rdM xs s).2 with ps := clrP s.ps, tl := 256 }, 0)
  else ((rdM xs s).2, 7)
/-- A code's string. -/
def txM (s : Sm) (x : Int) : Option (List Int) :=
  match txt s.ps s.es 8192 x with
  | some t => some t
  | none => if s.la < 0 ∨ x ≠ nextP s.ps s.tl then none else (txt s.ps s.es 8192 s.la).map fun t => t ++ [t.getD 0 0]
/-- A string is told. -/
def tlM (s : Sm) (x : Int) (t : List Int) : Sm :=
  if 0 ≤ s.la then { s with os := s.os ++ t, ps := (addP s.ps s.es s.tl s.la (t.getD 0 0)).1, es := (addP s.ps s.es s.tl s.la (t.getD 0 0)).2.1, tl := (addP s.ps s.es s.tl s.la (t.getD 0 0)).2.2, la := x }
  else { s with os := s.os ++ t, la := x }
noncomputable def stM (xs : List Int) (size : Int) (s : Sm) : Sm × Int :=
  if (rdM xs s).2.er ≠ 0 then ((rdM xs s).2, (rdM xs s).2.er)
  else if (rdM xs s).1 = 256 then ctM xs (rdM xs s).2
  else match txM (rdM xs s).2 (rdM xs s).1 with
    | none => ((rdM xs s).2, 7)
    | some t => if size - s.os.length < t.length then ((rdM xs s).2, 9) else (tlM (rdM xs s).2 (rdM xs s).1 t, 0)
noncomputable def deM (xs : List Int) (size : Int) : Nat → Sm → Sm × Int
  | 0, s => (s, 0)
  | f + 1, s => if (s.os.length : Int) < size then (if (stM xs size s).2 ≠ 0 then stM xs size s else deM xs size f (stM xs size s).1) else (s, 0)
def s0M : Sm := ⟨0, 0, 9, List.replicate 8192 (-1), List.replicate 8192 0, 256, [], -1, 0⟩
/-- All that is told: bytes, steps, the error. -/
noncomputable def decM (xs : List Int) (size : Int) : List Int × Int × Int :=
  if size < 0 then ([], 0, 2)
  else if (deM xs size (8 * xs.length + 1) s0M).2 ≠ 0 then ([], 0, (deM xs size (8 * xs.length + 1) s0M).2)
  else if 8 ≤ 8 * (xs.length : Int) - (deM xs size (8 * xs.length + 1) s0M).1.p then ([], 0, 5)
  else ((deM xs size (8 * xs.length + 1) s0M).1.os, (deM xs size (8 * xs.length + 1) s0M).1.st, 0)

/-- A state as it comes ahead of a step. -/
structure SmI (xs : List Int) (size : Int) (s : Sm) : Prop where
  er : s.er = 0
  w : 9 ≤ s.w ∧ s.w ≤ 13
  p : s.p ≤ 8 * xs.length
  st : 0 ≤ s.st ∧ 9 * s.st ≤ s.p
  os : (s.os.length : Int) ≤ size
  ob : s.os.length ≤ 911 * s.p
  la : -1 ≤ s.la ∧ s.la ≤ 8191
theorem deM_step {xs : List Int} {size : Int} {f : Nat} {s : Sm} (h1 : (s.os.length : Int) < size) (hf : 0 < f) : deM xs size f s = if (stM xs size s).2 ≠ 0 then stM xs size s else deM xs size (f - 1) (stM xs size s).1 := by
  obtain ⟨g, rfl⟩ : ∃ g, f = g + 1 := ⟨f - 1, by omega⟩
  rw [deM, if_pos h1]
  rfl
theorem deM_end {xs : List Int} {size : Int} {f : Nat} {s : Sm} (h1 : size ≤ (s.os.length : Int)) (hf : 0 < f) : deM xs size f s = (s, 0) := by
  obtain ⟨g, rfl⟩ : ∃ g, f = g + 1 := ⟨f - 1, by omega⟩
  rw [deM, if_neg (by omega)]

theorem rdM_inv {xs : List Int} {size : Int} {s : Sm} (h : SmI xs size s) (hb : Byt xs) : ∀ {x : Int} {s1 : Sm}, rdM xs s = (x, s1) →
    (s1.er ≠ 0 ∧ s1 = { s with er := s1.er, st := s.st + 1 } ∧ s1.er = 3) ∨ (s1.er = 0 ∧ s1 = { s with p := s.p + s.w.toNat, st := s.st + 1 } ∧ 0 ≤ x ∧ x < 8192 ∧ s.p + s.w.toNat ≤ 8 * xs.length ∧ x = cut (V xs) s.p s.w.toNat) := by
  intro x s1 hr
  have hw := h.w
  have hp := h.p
  unfold rdM at hr
  rw [if_neg (by simpa using h.er)] at hr
  split at hr
  · cases hr; exact .inl ⟨by show (3 : Int) ≠ 0; omega, rfl, rfl⟩
  · rename_i h1
    cases hr
    have h2 := cut_nonneg (V_bnd hb).1 s.p s.w.toNat
    have h3 := cut_lt (V xs) s.p s.w.toNat
    have h4 : (2 : Int) ^ s.w.toNat ≤ 2 ^ 13 := by exact_mod_cast Nat.pow_le_pow_right (by decide) (by omega)
    exact .inr ⟨h.er, rfl, h2, by omega, by omega, rfl⟩
theorem txM_len {s : Sm} {x : Int} {t : List Int} (h : txM s x = some t) : t.length ≤ 8193 := by
  unfold txM at h
  split at h
  · rename_i u hu; cases h; have := txt_len _ hu; omega
  · split at h
    · cases h
    · cases hu : txt s.ps s.es 8192 s.la with
      | none => rw [hu] at h; cases h
      | some u => rw [hu] at h; cases h; have := txt_len _ hu; simp; omega
theorem ctM_inv {xs : List Int} {size : Int} {s s' : Sm} (h : SmI xs size s) (hb : Byt xs) (hs : ctM xs s = (s', 0)) : SmI xs size s' ∧ s.p + 9 ≤ s'.p := by
  have hw := h.w
  have hst := h.st
  have hob := h.ob
  cases hr : rdM xs s with
  | mk x s1 =>
    have h1 := rdM_inv h hb hr
    unfold ctM at hs
    rw [hr] at hs
    simp only at hs
    rcases h1 with ⟨h2, _, h3⟩ | ⟨h2, h3, h4, h5, h6, _⟩
    · rw [if_pos h2] at hs
      have : s1.er = 0 := congrArg Prod.snd hs
      omega
    · rw [if_neg (by omega)] at hs
      have key : ∀ (w' : Int) (ps' : List Int) (tl' : Int), 9 ≤ w' ∧ w' ≤ 13 → SmI xs size { s1 with w := w', ps := ps', tl := tl' } ∧ s.p + 9 ≤ s1.p := fun w' ps' tl' hw' => by
        rw [h3]
        exact ⟨⟨h.er, hw', h6, by show 0 ≤ s.st + 1 ∧ 9 * (s.st + 1) ≤ ((s.p + s.w.toNat : Nat) : Int); omega, h.os, by show s.os.length ≤ 911 * (s.p + s.w.toNat); omega, h.la⟩, by show s.p + 9 ≤ s.p + s.w.toNat; omega⟩
      have e1 : s1.w = s.w := by rw [h3]
      split at hs
      · rename_i h7
        cases hs
        exact key (s.w + 1) s1.ps s1.tl (by omega)
      · split at hs
        · cases hs
          exact key s1.w (clrP s.ps) 256 (by omega)
        · have := congrArg Prod.snd hs
          cases this
theorem stM_inv {xs : List Int} {size : Int} {s s' : Sm} (h : SmI xs size s) (hb : Byt xs) (hs : stM xs size s = (s', 0)) : SmI xs size s' ∧ s.p + 9 ≤ s'.p := by
  have hw := h.w
  have hst := h.st
  have hob := h.ob
  cases hr : rdM xs s with
  | mk x s1 =>
    have h1 := rdM_inv h hb hr
    unfold stM at hs
    rw [hr] at hs
    simp only at hs
    rcases h1 with ⟨h2, _, h3⟩ | ⟨h2, h3, h4, h5, h6, _⟩
    · rw [if_pos h2] at hs
      have : s1.er = 0 := congrArg Prod.snd hs
      omega
    · rw [if_neg (by omega)] at hs
      have hI1 : SmI xs size s1 ∧ s.p + 9 ≤ s1.p := by
        rw [h3]
        exact ⟨⟨h.er, hw, h6, by show 0 ≤ s.st + 1 ∧ 9 * (s.st + 1) ≤ ((s.p + s.w.toNat : Nat) : Int); omega, h.os, by show s.os.length ≤ 911 * (s.p + s.w.toNat); omega, h.la⟩, by show s.p + 9 ≤ s.p + s.w.toNat; omega⟩
      split at hs
      · have := ctM_inv hI1.1 hb hs
        exact ⟨this.1, by omega⟩
      · split at hs
        · have := congrArg Prod.snd hs
          cases this
        · rename_i t ht
          split at hs
          · have := congrArg Prod.snd hs
            cases this
          · rename_i h7
            have e := congrArg Prod.fst hs
            have htl := txM_len ht
            have eo : s1.os = s.os := by rw [h3]
            have ep : s1.p = s.p + s.w.toNat := by rw [h3]
            have hI := hI1.1
            have := hI1.2
            have hos := hI.os
            have key : ∀ (ps' es' : List Int) (tl' : Int), SmI xs size { s1 with os := s1.os ++ t, ps := ps', es := es', tl := tl', la := x } := fun ps' es' tl' =>
              ⟨hI.er, hI.w, hI.p, hI.st, by show (((s1.os ++ t).length : Nat) : Int) ≤ size; rw [List.length_append, eo]; omega, by show (s1.os ++ t).length ≤ 911 * s1.p; rw [List.length_append, eo]; omega, by show -1 ≤ x ∧ x ≤ 8191; omega⟩
            have e : tlM s1 x t = s' := e
            unfold tlM at e
            split at e
            · rw [← e]; exact ⟨key _ _ _, this⟩
            · rw [← e]; exact ⟨key s1.ps s1.es s1.tl, this⟩
end Go.Sx

/- shrink: the decoder's chunks; a code is read. -/
set_option maxRecDepth 100000
set_option maxHeartbeats 4000000
set_option linter.unusedVariables false
set_option linter.unusedSimpArgs false
namespace Go.Sx
open Go.Proofs.Try

/-- A decoder behind the handle h. -/
def ShH (A : Ar) (h : Nat) (xs : List Int) (m : Nat) (at_ hold nb er wd la st : Int) (ps es : List Int) (mp : List Int → Option Int) (tl tu sz : Int) (k : Nat) (os : List Int) : List Ck :=
  [.box 53 [.ptr (h + 1) 0, .ptr (h + 3) 0, .ptr (h + 7) 0, .int .i64 wd, .int .i64 la, .int .i64 st],
   .box 76 [.lst (h + 2) m, .int .i64 at_, .int .u64 hold, .int .i64 nb, .int .i64 er, .bool true], .lst 5 1 (A.ints .u8 xs),
   .box 79 [.lst (h + 4) 8192, .lst (h + 5) 8192, .mapv (h + 6), .int .i64 tl, .int .i64 tu], .lst 3 1 (A.ints .i64 ps), .lst 5 1 (A.ints .u8 es), .mp [.i64, .u8] mp,
   .box 74 [.int .i64 1, .int .i64 sz, .bool false, .lst (h + 8) k], .lst 5 1 (A.ints .u8 os)]
/-- ... its output in memory of its own. -/
def ShG (A : Ar) (xs : List Int) (m : Nat) (at_ hold nb er wd la st : Int) (ps es : List Int) (mp : List Int → Option Int) (tl tu sz : Int) (k : Nat) (os : List Int) : List Ck :=
  [.box 53 [.ptr 1 0, .ptr 3 0, .ptr 7 0, .int .i64 wd, .int .i64 la, .int .i64 st],
   .box 76 [.lst 2 m, .int .i64 at_, .int .u64 hold, .int .i64 nb, .int .i64 er, .bool true], .lst 5 1 (A.ints .u8 xs),
   .box 79 [.lst 4 8192, .lst 5 8192, .mapv 6, .int .i64 tl, .int .i64 tu], .lst 3 1 (A.ints .i64 ps), .lst 5 1 (A.ints .u8 es), .mp [.i64, .u8] mp,
   .box 74 [.int .i64 1, .int .i64 sz, .bool false, .lst 9 k], .gone, .lst 5 1 (A.ints .u8 os)]
structure ShO (A : Ar) (H : List Ck) (h : Nat) (xs : List Int) (m : Nat) (at_ hold nb er wd la st : Int) (ps es : List Int) (mp : List Int → Option Int) (tl tu sz : Int) (k : Nat) (os : List Int) : Prop where
  o0 : H[h]? = some (.box 53 [.ptr (h + 1) 0, .ptr (h + 3) 0, .ptr (h + 7) 0, .int .i64 wd, .int .i64 la, .int .i64 st])
  o1 : H[h + 1]? = some (.box 76 [.lst (h + 2) m, .int .i64 at_, .int .u64 hold, .int .i64 nb, .int .i64 er, .bool true])
  o2 : H[h + 2]? = some (.lst 5 1 (A.ints .u8 xs))
  o3 : H[h + 3]? = some (.box 79 [.lst (h + 4) 8192, .lst (h + 5) 8192, .mapv (h + 6), .int .i64 tl, .int .i64 tu])
  o4 : H[h + 4]? = some (.lst 3 1 (A.ints .i64 ps))
  o5 : H[h + 5]? = some (.lst 5 1 (A.ints .u8 es))
  o6 : H[h + 6]? = some (.mp [.i64, .u8] mp)
  o7 : H[h + 7]? = some (.box 74 [.int .i64 1, .int .i64 sz, .bool false, .lst (h + 8) k])
  o8 : H[h + 8]? = some (.lst 5 1 (A.ints .u8 os))
def shL (h : Nat) : List Lk := [(h, 0, true), (h + 1, 0, true), (h + 2, 0, true), (h + 3, 0, true), (h + 4, 0, true), (h + 5, 0, true), (h + 6, 0, true), (h + 7, 0, true), (h + 8, 0, true)]
theorem shL_ok (h : Nat) : lkOk (shL h) := by
  unfold shL
  simp only [lkOk, List.mem_cons, List.not_mem_nil, or_false, forall_eq_or_imp, forall_eq]
  refine ⟨?_, ?_⟩ <;> simp <;> omega
section
variable {A : Ar} {C : CallT} {s : St} {κ : List Nat → SV → List Ck → Prop} {h m k : Nat} {xs ps es os : List Int} {at_ hold nb er wd la st tl tu sz : Int} {mp : List Int → Option Int}
theorem matchSh (hA : A = R) {n : Nat} {f : List Lk} {H : List Ck} (kO : ShO A s.H h xs m at_ hold nb er wd la st ps es mp tl tu sz k os) (hf : ∀ i, i < 9 → linkOf n (shL h ++ f) i = (h + i, 0)) (hm : 9 ≤ (shL h ++ f).length) (hr : matchH (shL h ++ f).length (linkOf n (shL h ++ f)) s.H f H) :
    matchH (shL h ++ f).length (linkOf n (shL h ++ f)) s.H (shL h ++ f) (ShH A 0 xs m at_ hold nb er wd la st ps es mp tl tu sz k os ++ H) := by
  generalize hM : (shL h ++ f).length = M at *
  generalize linkOf n (shL h ++ f) = g at *
  have e : ∀ i o, i < 9 → renC g (.ptr i o) = .ptr (h + i) o := fun i o hi => by simp only [renC, hf i hi, Nat.zero_add]
  have e2 : ∀ i n, i < 9 → renC g (.lst i n) = .lst (h + i) n := fun i n hi => by simp only [renC, hf i hi, if_true]
  have e3 : ∀ i, i < 9 → renC g (.mapv i) = .mapv (h + i) := fun i hi => by simp only [renC, hf i hi]
  have z : ∀ i n, i < 9 → zOk g (.lst i n) := fun i n hi => by show (g i).2 = 0; rw [hf i hi]
  refine ⟨rfl, ⟨(show 0 + 1 < M by omega), (show 0 + 3 < M by omega), (show 0 + 7 < M by omega), trivial, trivial, trivial, trivial⟩, ⟨trivial, trivial, trivial, trivial, trivial, trivial, trivial⟩, ?_,
    rfl, ⟨(show 0 + 2 < M by omega), trivial, trivial, trivial, trivial, trivial, trivial⟩, ⟨z _ _ (by omega), trivial, trivial, trivial, trivial, trivial, trivial⟩, ?_,
    rfl, hLtsA hA .., zOksA hA .., ?_,
    rfl, ⟨(show 0 + 4 < M by omega), (show 0 + 5 < M by omega), (show 0 + 6 < M by omega), trivial, trivial, trivial⟩, ⟨z _ _ (by omega), z _ _ (by omega), trivial, trivial, trivial, trivial⟩, ?_,
    rfl, hLtsA hA .., zOksA hA .., ?_, rfl, hLtsA hA .., zOksA hA .., ?_, rfl, trivial, trivial, kO.o6,
    rfl, ⟨trivial, trivial, trivial, (show 0 + 8 < M by omega), trivial⟩, ⟨trivial, trivial, trivial, z _ _ (by omega), trivial⟩, ?_,
    rfl, hLtsA hA .., zOksA hA .., ?_, hr⟩
  · rw [kO.o0]; simp only [renCk, List.map_cons, List.map_nil, e _ _ (show 0 + 1 < 9 by omega), e _ _ (show 0 + 3 < 9 by omega), e _ _ (show 0 + 7 < 9 by omega), Nat.zero_add]; rfl
  · rw [kO.o1]; simp only [renCk, List.map_cons, List.map_nil, e2 _ _ (show 0 + 2 < 9 by omega), Nat.zero_add]; rfl
  · rw [kO.o2, renCk, renA hA]
  · rw [kO.o3]; simp only [renCk, List.map_cons, List.map_nil, e2 _ _ (show 0 + 4 < 9 by omega), e2 _ _ (show 0 + 5 < 9 by omega), e3 _ (show 0 + 6 < 9 by omega), Nat.zero_add]; rfl
  · rw [kO.o4, renCk, renA hA]
  · rw [kO.o5, renCk, renA hA]
  · rw [kO.o7]; simp only [renCk, List.map_cons, List.map_nil, e2 _ _ (show 0 + 8 < 9 by omega), Nat.zero_add]; rfl
  · rw [kO.o8, renCk, renA hA]
end

/-! A code -/
theorem s_scode (xs : List Int) (m p a b : Nat) (at_ hold nb er wd la st : Int) (ps es : List Int) (mp : List Int → Option Int) (tl tu sz : Int) (k : Nat) (os : List Int) (hx : RX xs m) (hF : RF xs p a b at_ hold nb) (hw : 9 ≤ wd ∧ wd ≤ 13) (hst : 0 ≤ st ∧ st ≤ 1000000000000000) :
    Spec prog 35 [.ptr 0 0] (ShH R 0 xs m at_ hold nb er wd la st ps es mp tl tu sz k os) (fun r H => ∃ (a b p' : Nat) (at_ hold nb er' x : Int), RF xs p' a b at_ hold nb ∧
      rdM xs ⟨p, er, wd, ps, es, tl, os, la, st⟩ = (x, ⟨p', er', wd, ps, es, tl, os, la, st + 1⟩) ∧ r = .tup [.int .i64 x, .int .i64 er'] ∧ H = ShH R 0 xs m at_ hold nb er' wd la (st + 1) ps es mp tl tu sz k os) := by
  refine Spec_of_kF (D := fun i => if i = 1 then (8, [1,2]) else (0, [])) (ks := [0, 2, 3, 4]) tok mixed (fn := f35) rfl rfl rfl (by kernel_rfl) (N := 28) rfl (rs := [.tmp 2, .tmp 3]) rfl (Nat.le_of_ble_eq_true rfl) fun A C Kp E ag L q hA hC hK hE hag hL hq => ?_
  rw [← hA]
  cbv
  refine call_bits hC hA hx hF (by decide) rfl rfl fun a b p' at_ hold nb er' y hF' hQ => ?_
  have hy : 0 ≤ y ∧ y < 4294967296 := by
    rcases hQ with ⟨_, h, _⟩ | ⟨_, _, h, _⟩ | ⟨_, _, _, _, h, _⟩ | ⟨_, h0, h1, _, h, _⟩
    · omega
    · omega
    · omega
    · rw [h]
      have h2 := cut_nonneg (V_bnd hx.1).1 p wd.toNat
      have h3 := cut_lt (V xs) p wd.toNat
      have h4 : (2 : Int) ^ wd.toNat ≤ 2 ^ 13 := by exact_mod_cast Nat.pow_le_pow_right (by decide) (by omega)
      omega
  have hrd : rdM xs ⟨p, er, wd, ps, es, tl, os, la, st⟩ = (y, ⟨p', er', wd, ps, es, tl, os, la, st + 1⟩) := by
    unfold rdM
    rcases hQ with ⟨h1, h2, h3, h4⟩ | ⟨_, h, _⟩ | ⟨h1, _, _, h2, h3, h4, h5⟩ | ⟨h1, _, _, h2, h3, h4, h5⟩
    · rw [if_pos h1, h2, h3, h4]
    · omega
    · rw [if_neg (by simpa using h1), if_pos h2, h3, h4, h5]
    · rw [if_neg (by simpa using h1), if_neg (by show ¬ (8 * (xs.length : Int) < (p : Int) + wd); omega), h3, h4, h5, ← h1]
  clear hQ
  cbv
  (try simp only [ncast] at *)
  obtain ⟨s1, hs1⟩ : ∃ s1, s1 = st + 1 := ⟨_, rfl⟩
  have e1 : A.bin .add .i64 st 1 = s1 := by rw [addA hA, wrap64 (by omega), hs1]
  have e2 : A.wrap .i64 y = y := by rw [wrapA hA, wrap64 (by omega)]
  simp only [e1, e2]
  refine call_err hC (hb := 1) (hr := 2) rfl (by show 2 < 9; omega) ?_
  cbv
  (try simp only [ncast] at *)
  subst hA hq
  refine Fin_of ⟨[(2, .int .i64 y), (3, .int .i64 er')], ShH R 0 xs m at_ hold nb er' wd la s1 ps es mp tl tu sz k os⟩ ?_ ⟨a, b, p', at_, hold, nb, er', y, hF', hrd, rfl, by rw [hs1]⟩
  unfold ShH
  exact Sub_of [0, 1, 2, 3, 4, 5, 6, 7, 8] (by simp [sigOk, ndG]) (by simp) (by repeat' (first | exact trivial | exact fun _ => rfl | exact fun h => absurd h (by simp) | exact subC_ints rfl | refine And.intro ?_ ?_ | rfl | (simp [subH_nil, hLts, hLt, renCk, renC, sg, Ck.cells, R_ints_ren, R_ints_hLts]; done))) (by repeat' (first | exact trivial | exact .inr ⟨trivial, rfl⟩ | exact .inr ⟨by simp [vOk, hLt, hLts], rfl⟩ | refine And.intro ?_ ?_))
end Go.Sx

/- shrink: the decoder's control, text, tell. -/
set_option maxRecDepth 100000
set_option maxHeartbeats 4000000
set_option linter.unusedVariables false
set_option linter.unusedSimpArgs false
namespace Go.Sx
open Go.Proofs.Try

section
variable {A : Ar} {C : CallT} {s : St} {κ : List Nat → SV → List Ck → Prop} {h m p a b k : Nat} {xs ps es os : List Int} {at_ hold nb er wd la st tl tu sz : Int} {mp : List Int → Option Int}
/-- A decoder's chunks put in place. -/
def setSh (A : Ar) (H : List Ck) (h : Nat) (xs : List Int) (m : Nat) (at_ hold nb er wd la st : Int) (ps es : List Int) (mp : List Int → Option Int) (tl tu sz : Int) (k : Nat) (os : List Int) : List Ck :=
  set1 (set1 (set1 (set1 (set1 (set1 (set1 (set1 (set1 H h (.box 53 [.ptr (h + 1) 0, .ptr (h + 3) 0, .ptr (h + 7) 0, .int .i64 wd, .int .i64 la, .int .i64 st]))
    (h + 1) (.box 76 [.lst (h + 2) m, .int .i64 at_, .int .u64 hold, .int .i64 nb, .int .i64 er, .bool true])) (h + 2) (.lst 5 1 (A.ints .u8 xs)))
    (h + 3) (.box 79 [.lst (h + 4) 8192, .lst (h + 5) 8192, .mapv (h + 6), .int .i64 tl, .int .i64 tu])) (h + 4) (.lst 3 1 (A.ints .i64 ps))) (h + 5) (.lst 5 1 (A.ints .u8 es))) (h + 6) (.mp [.i64, .u8] mp))
    (h + 7) (.box 74 [.int .i64 1, .int .i64 sz, .bool false, .lst (h + 8) k])) (h + 8) (.lst 5 1 (A.ints .u8 os))
theorem linkSh (n h : Nat) (f : List Lk) : ∀ i, i < 9 → linkOf n (shL h ++ f) i = (h + i, 0)
  | 0, _ | 1, _ | 2, _ | 3, _ | 4, _ | 5, _ | 6, _ | 7, _ | 8, _ => rfl
  | i + 9, h => by omega
theorem backSh (hA : A = R) (H : List Ck) (h : Nat) (xs : List Int) (m : Nat) (at_ hold nb er wd la st : Int) (ps es : List Int) (mp : List Int → Option Int) (tl tu sz : Int) (k : Nat) (os : List Int) :
    backH (linkOf H.length (shL h)) (shL h) (ShH A 0 xs m at_ hold nb er wd la st ps es mp tl tu sz k os) H = setSh A H h xs m at_ hold nb er wd la st ps es mp tl tu sz k os := by
  unfold setSh
  simp only [set1_eq]
  simp only [backH, ShH, List.map_cons, List.map_nil, renCk, renA hA]
  unfold shL
  simp only [setAll, List.length_cons, List.length_nil, List.drop_succ_cons, List.drop_nil, List.append_nil]
  rfl
theorem call_scode (hC : C = CallX prog) (hA : A = R) (hx : RX xs m) (hF : RF xs p a b at_ hold nb) (hw : 9 ≤ wd ∧ wd ≤ 13) (hst : 0 ≤ st ∧ st ≤ 1000000000000000) (kO : ShO A s.H h xs m at_ hold nb er wd la st ps es mp tl tu sz k os)
    (hk : ∀ (a b p' : Nat) (at_ hold nb er' x st1 : Int), RF xs p' a b at_ hold nb → rdM xs ⟨p, er, wd, ps, es, tl, os, la, st⟩ = (x, ⟨p', er', wd, ps, es, tl, os, la, st1⟩) → st1 = st + 1 →
      κ (tgs (shL h)) (.tup [.int .i64 x, .int .i64 er']) (setSh A s.H h xs m at_ hold nb er' wd la st1 ps es mp tl tu sz k os)) : C 35 [.ptr h 0] s κ := by
  have hS := s_scode xs m p a b at_ hold nb er wd la st ps es mp tl tu sz k os hx hF hw hst
  rw [← hA] at hS
  have hM := matchSh hA (n := s.H.length) (f := []) (H := []) kO (linkSh _ _ _) (by simp [shL]) (by simp [matchH])
  simp only [List.append_nil] at hM
  refine cal_of hC hS (shL h) (shL_ok h) hM ⟨⟨(show 0 < 9 by omega), trivial, rfl⟩, trivial⟩ ?_
  rintro _ _ ⟨a', b', p', at', hold', nb', er', x, h1, h2, rfl, rfl⟩
  exact ⟨_, _, _, rfl, rfl, backSh hA .., hk a' b' p' at' hold' nb' er' x _ h1 h2 rfl⟩
end

/-! Control -/
theorem s_sctl (xs : List Int) (m p a b : Nat) (at_ hold nb er wd la st : Int) (ps es : List Int) (mp : List Int → Option Int) (tl tu sz : Int) (k : Nat) (os : List Int) (hx : RX xs m) (hF : RF xs p a b at_ hold nb) (hw : 9 ≤ wd ∧ wd ≤ 13) (hst : 0 ≤ st ∧ st ≤ 1000000000000000) (hZ : ZI ps es tl tu) :
    Spec prog 36 [.ptr 0 0] (ShH R 0 xs m at_ hold nb er wd la st ps es mp tl tu sz k os) (fun r H => ∃ (a b p' : Nat) (at_ hold nb er' wd' st' e : Int) (ps' : List Int) (mp' : List Int → Option Int) (tl' tu' : Int), RF xs p' a b at_ hold nb ∧ ZI ps' es tl' tu' ∧
      ctM xs ⟨p, er, wd, ps, es, tl, os, la, st⟩ = (⟨p', er', wd', ps', es, tl', os, la, st'⟩, e) ∧ r = .int .i64 e ∧ H = ShH R 0 xs m at_ hold nb er' wd' la st' ps' es mp' tl' tu' sz k os) := by
  refine Spec_of_kF (D := fun i => (0, [])) (ks := [0, 2, 3, 4]) tok mixed (fn := f36) rfl rfl rfl (by kernel_rfl) (N := 39) rfl (rs := [.tmp 2]) rfl (Nat.le_of_ble_eq_true rfl) fun A C Kp E ag L q hA hC hK hE hag hL hq => ?_
  rw [← hA]
  cbv
  refine call_scode hC hA (h := 0) hx hF hw hst ⟨rfl, rfl, rfl, rfl, rfl, rfl, rfl, rfl, rfl⟩ fun a b p' at_ hold nb er' x st1 hF' hR hst1 => ?_
  have hc : ctM xs ⟨p, er, wd, ps, es, tl, os, la, st⟩ = if er' ≠ 0 then (⟨p', er', wd, ps, es, tl, os, la, st1⟩, er') else if x = 1 ∧ wd < 13 then (⟨p', er', wd + 1, ps, es, tl, os, la, st1⟩, 0) else if x = 2 then (⟨p', er', wd, clrP ps, es, 256, os, la, st1⟩, 0) else (⟨p', er', wd, ps, es, tl, os, la, st1⟩, 7) := by
    unfold ctM
    rw [hR]
  clear hR
  cbv
  (try simp only [ncast] at *)
  refine ifB_intro (fun h => ?_) (fun h => ?_)
  · have h1 := h
    (try simp only [natA hA, lssA hA, leqA hA, gtrA hA, geqA hA, eqlA hA, neqA hA, notA hA, beqA hA, decide_eq_true_eq, decide_eq_false_iff_not, beq_iff_eq, beq_eq_false_iff_ne, bne_iff_ne, bne_eq_false_iff_eq, Bool.not_eq_true', Bool.not_eq_false', ncast, Int.not_lt, Int.not_le, ne_eq, not_true_eq_false, not_false_eq_true, false_or, true_and] at h1)
    (try rw [h]); clear h
    cbv
    (try simp only [ncast] at *)
    rw [if_pos h1] at hc
    subst hA hq
    refine Fin_of ⟨[(2, .int .i64 er')], ShH R 0 xs m at_ hold nb er' wd la st1 ps es mp tl tu sz k os⟩ ?_ ⟨a, b, p', at_, hold, nb, er', wd, st1, er', ps, mp, tl, tu, hF', hZ, hc, rfl, rfl⟩
    unfold ShH
    exact Sub_of [0, 1, 2, 3, 4, 5, 6, 7, 8] (by simp [sigOk, ndG]) (by simp) (by repeat' (first | exact trivial | exact fun _ => rfl | exact fun h => absurd h (by simp) | exact subC_ints rfl | refine And.intro ?_ ?_ | rfl | (simp [subH_nil, hLts, hLt, renCk, renC, sg, Ck.cells, R_ints_ren, R_ints_hLts]; done))) (by repeat' (first | exact trivial | exact .inr ⟨trivial, rfl⟩ | exact .inr ⟨by simp [vOk, hLt, hLts], rfl⟩ | refine And.intro ?_ ?_))
  · have h1 := h
    (try simp only [natA hA, lssA hA, leqA hA, gtrA hA, geqA hA, eqlA hA, neqA hA, notA hA, beqA hA, decide_eq_true_eq, decide_eq_false_iff_not, beq_iff_eq, beq_eq_false_iff_ne, bne_iff_ne, bne_eq_false_iff_eq, Bool.not_eq_true', Bool.not_eq_false', ncast, Int.not_lt, Int.not_le, ne_eq, not_true_eq_false, not_false_eq_true, false_or, true_and] at h1)
    (try rw [h]); clear h
    cbv
    (try simp only [ncast] at *)
    rw [if_neg (by omega)] at hc
    refine ifB_intro (fun h => ?_) (fun h => ?_)
    · have h2 := h
      (try simp only [natA hA, lssA hA, leqA hA, gtrA hA, geqA hA, eqlA hA, neqA hA, notA hA, beqA hA, decide_eq_true_eq, decide_eq_false_iff_not, beq_iff_eq, beq_eq_false_iff_ne, bne_iff_ne, bne_eq_false_iff_eq, Bool.not_eq_true', Bool.not_eq_false', ncast, Int.not_lt, Int.not_le, ne_eq, not_true_eq_false, not_false_eq_true, false_or, true_and] at h2)
      (try rw [h]); clear h
      cbv
      (try simp only [ncast] at *)
      refine ifB_intro (fun h => ?_) (fun h => ?_)
      · have h4 := h
        (try simp only [natA hA, lssA hA, leqA hA, gtrA hA, geqA hA, eqlA hA, neqA hA, notA hA, beqA hA, decide_eq_true_eq, decide_eq_false_iff_not, beq_iff_eq, beq_eq_false_iff_ne, bne_iff_ne, bne_eq_false_iff_eq, Bool.not_eq_true', Bool.not_eq_false', ncast, Int.not_lt, Int.not_le, ne_eq, not_true_eq_false, not_false_eq_true, false_or, true_and] at h4)
        (try rw [h]); clear h
        cbv
        (try simp only [ncast] at *)
        rw [if_pos ⟨h2, h4⟩] at hc
        obtain ⟨w1, hw1⟩ : ∃ w1, w1 = wd + 1 := ⟨_, rfl⟩
        have e1 : A.bin .add .i64 wd 1 = w1 := by rw [addA hA, wrap64 (by omega), hw1]
        simp only [e1]
        rw [← hw1] at hc
        subst hA hq
        refine Fin_of ⟨[(2, .int .i64 0)], ShH R 0 xs m at_ hold nb er' w1 la st1 ps es mp tl tu sz k os⟩ ?_ ⟨a, b, p', at_, hold, nb, er', w1, st1, 0, ps, mp, tl, tu, hF', hZ, hc, rfl, rfl⟩
        unfold ShH
        exact Sub_of [0, 1, 2, 3, 4, 5, 6, 7, 8] (by simp [sigOk, ndG]) (by simp) (by repeat' (first | exact trivial | exact fun _ => rfl | exact fun h => absurd h (by simp) | exact subC_ints rfl | refine And.intro ?_ ?_ | rfl | (simp [subH_nil, hLts, hLt, renCk, renC, sg, Ck.cells, R_ints_ren, R_ints_hLts]; done))) (by repeat' (first | exact trivial | exact .inr ⟨trivial, rfl⟩ | exact .inr ⟨by simp [vOk, hLt, hLts], rfl⟩ | refine And.intro ?_ ?_))
      · have h4 := h
        (try simp only [natA hA, lssA hA, leqA hA, gtrA hA, geqA hA, eqlA hA, neqA hA, notA hA, beqA hA, decide_eq_true_eq, decide_eq_false_iff_not, beq_iff_eq, beq_eq_false_iff_ne, bne_iff_ne, bne_eq_false_iff_eq, Bool.not_eq_true', Bool.not_eq_false', ncast, Int.not_lt, Int.not_le, ne_eq, not_true_eq_false, not_false_eq_true, false_or, true_and] at h4)
        (try rw [h]); clear h
        cbv
        (try simp only [ncast] at *)
        rw [if_neg (by omega)] at hc
        refine ifB_intro (fun h => ?_) (fun h => ?_)
        · have h3 := h
          (try simp only [natA hA, lssA hA, leqA hA, gtrA hA, geqA hA, eqlA hA, neqA hA, notA hA, beqA hA, decide_eq_true_eq, decide_eq_false_iff_not, beq_iff_eq, beq_eq_false_iff_ne, bne_iff_ne, bne_eq_false_iff_eq, Bool.not_eq_true', Bool.not_eq_false', ncast, Int.not_lt, Int.not_le, ne_eq, not_true_eq_false, not_false_eq_true, false_or, true_and] at h3)
          (try rw [h]); clear h
          cbv
          (try simp only [ncast] at *)
          rw [if_pos h3] at hc
          refine call_zclear hC hA (h0 := 3) (h1 := 4) (h2 := 5) (h3 := 6) hZ.zt (by omega) ⟨rfl, rfl, rfl, rfl⟩ fun ps2 m2 used2 hQ => ?_
          have hZ2 := ZI_clr hZ hQ
          rw [← clrP_eq hQ.1] at hc
          clear hQ
          cbv
          (try simp only [ncast] at *)
          subst hA hq
          refine Fin_of ⟨[(2, .int .i64 0)], ShH R 0 xs m at_ hold nb er' wd la st1 ps2 es m2 256 used2 sz k os⟩ ?_ ⟨a, b, p', at_, hold, nb, er', wd, st1, 0, ps2, m2, 256, used2, hF', hZ2, hc, rfl, rfl⟩
          unfold ShH
          exact Sub_of [0, 1, 2, 3, 4, 5, 6, 7, 8] (by simp [sigOk, ndG]) (by simp) (by repeat' (first | exact trivial | exact fun _ => rfl | exact fun h => absurd h (by simp) | exact subC_ints rfl | refine And.intro ?_ ?_ | rfl | (simp [subH_nil, hLts, hLt, renCk, renC, sg, Ck.cells, R_ints_ren, R_ints_hLts]; done))) (by repeat' (first | exact trivial | exact .inr ⟨trivial, rfl⟩ | exact .inr ⟨by simp [vOk, hLt, hLts], rfl⟩ | refine And.intro ?_ ?_))
        · have h3 := h
          (try simp only [natA hA, lssA hA, leqA hA, gtrA hA, geqA hA, eqlA hA, neqA hA, notA hA, beqA hA, decide_eq_true_eq, decide_eq_false_iff_not, beq_iff_eq, beq_eq_false_iff_ne, bne_iff_ne, bne_eq_false_iff_eq, Bool.not_eq_true', Bool.not_eq_false', ncast, Int.not_lt, Int.not_le, ne_eq, not_true_eq_false, not_false_eq_true, false_or, true_and] at h3)
          (try rw [h]); clear h
          cbv
          (try simp only [ncast] at *)
          rw [if_neg (by omega)] at hc
          subst hA hq
          refine Fin_of ⟨[(2, .int .i64 7)], ShH R 0 xs m at_ hold nb er' wd la st1 ps es mp tl tu sz k os⟩ ?_ ⟨a, b, p', at_, hold, nb, er', wd, st1, 7, ps, mp, tl, tu, hF', hZ, hc, rfl, rfl⟩
          unfold ShH
          exact Sub_of [0, 1, 2, 3, 4, 5, 6, 7, 8] (by simp [sigOk, ndG]) (by simp) (by repeat' (first | exact trivial | exact fun _ => rfl | exact fun h => absurd h (by simp) | exact subC_ints rfl | refine And.intro ?_ ?_ | rfl | (simp [subH_nil, hLts, hLt, renCk, renC, sg, Ck.cells, R_ints_ren, R_ints_hLts]; done))) (by repeat' (first | exact trivial | exact .inr ⟨trivial, rfl⟩ | exact .inr ⟨by simp [vOk, hLt, hLts], rfl⟩ | refine And.intro ?_ ?_))
    · have h2 := h
      (try simp only [natA hA, lssA hA, leqA hA, gtrA hA, geqA hA, eqlA hA, neqA hA, notA hA, beqA hA, decide_eq_true_eq, decide_eq_false_iff_not, beq_iff_eq, beq_eq_false_iff_ne, bne_iff_ne, bne_eq_false_iff_eq, Bool.not_eq_true', Bool.not_eq_false', ncast, Int.not_lt, Int.not_le, ne_eq, not_true_eq_false, not_false_eq_true, false_or, true_and] at h2)
      (try rw [h]); clear h
      cbv
      (try simp only [ncast] at *)
      rw [if_neg (by omega)] at hc
      refine ifB_intro (fun h => ?_) (fun h => ?_)
      · have h3 := h
        (try simp only [natA hA, lssA hA, leqA hA, gtrA hA, geqA hA, eqlA hA, neqA hA, notA hA, beqA hA, decide_eq_true_eq, decide_eq_false_iff_not, beq_iff_eq, beq_eq_false_iff_ne, bne_iff_ne, bne_eq_false_iff_eq, Bool.not_eq_true', Bool.not_eq_false', ncast, Int.not_lt, Int.not_le, ne_eq, not_true_eq_false, not_false_eq_true, false_or, true_and] at h3)
        (try rw [h]); clear h
        cbv
        (try simp only [ncast] at *)
        rw [if_pos h3] at hc
        refine call_zclear hC hA (h0 := 3) (h1 := 4) (h2 := 5) (h3 := 6) hZ.zt (by omega) ⟨rfl, rfl, rfl, rfl⟩ fun ps2 m2 used2 hQ => ?_
        have hZ2 := ZI_clr hZ hQ
        rw [← clrP_eq hQ.1] at hc
        clear hQ
        cbv
        (try simp only [ncast] at *)
        subst hA hq
        refine Fin_of ⟨[(2, .int .i64 0)], ShH R 0 xs m at_ hold nb er' wd la st1 ps2 es m2 256 used2 sz k os⟩ ?_ ⟨a, b, p', at_, hold, nb, er', wd, st1, 0, ps2, m2, 256, used2, hF', hZ2, hc, rfl, rfl⟩
        unfold ShH
        exact Sub_of [0, 1, 2, 3, 4, 5, 6, 7, 8] (by simp [sigOk, ndG]) (by simp) (by repeat' (first | exact trivial | exact fun _ => rfl | exact fun h => absurd h (by simp) | exact subC_ints rfl | refine And.intro ?_ ?_ | rfl | (simp [subH_nil, hLts, hLt, renCk, renC, sg, Ck.cells, R_ints_ren, R_ints_hLts]; done))) (by repeat' (first | exact trivial | exact .inr ⟨trivial, rfl⟩ | exact .inr ⟨by simp [vOk, hLt, hLts], rfl⟩ | refine And.intro ?_ ?_))
      · have h3 := h
        (try simp only [natA hA, lssA hA, leqA hA, gtrA hA, geqA hA, eqlA hA, neqA hA, notA hA, beqA hA, decide_eq_true_eq, decide_eq_false_iff_not, beq_iff_eq, beq_eq_false_iff_ne, bne_iff_ne, bne_eq_false_iff_eq, Bool.not_eq_true', Bool.not_eq_false', ncast, Int.not_lt, Int.not_le, ne_eq, not_true_eq_false, not_false_eq_true, false_or, true_and] at h3)
        (try rw [h]); clear h
        cbv
        (try simp only [ncast] at *)
        rw [if_neg (by omega)] at hc
        subst hA hq
        refine Fin_of ⟨[(2, .int .i64 7)], ShH R 0 xs m at_ hold nb er' wd la st1 ps es mp tl tu sz k os⟩ ?_ ⟨a, b, p', at_, hold, nb, er', wd, st1, 7, ps, mp, tl, tu, hF', hZ, hc, rfl, rfl⟩
        unfold ShH
        exact Sub_of [0, 1, 2, 3, 4, 5, 6, 7, 8] (by simp [sigOk, ndG]) (by simp) (by repeat' (first | exact trivial | exact fun _ => rfl | exact fun h => absurd h (by simp) | exact subC_ints rfl | refine And.intro ?_ ?_ | rfl | (simp [subH_nil, hLts, hLt, renCk, renC, sg, Ck.cells, R_ints_ren, R_ints_hLts]; done))) (by repeat' (first | exact trivial | exact .inr ⟨trivial, rfl⟩ | exact .inr ⟨by simp [vOk, hLt, hLts], rfl⟩ | refine And.intro ?_ ?_))
end Go.Sx

/- shrink: the decoder's text, tell. -/
set_option maxRecDepth 100000
set_option maxHeartbeats 4000000
set_option linter.unusedVariables false
set_option linter.unusedSimpArgs false
namespace Go.Sx
open Go.Proofs.Try

theorem txt_pos {ps es : List Int} : ∀ {k : Nat} {c : Int} {t : List Int}, txt ps es k c = some t → 0 < t.length
  | 0, _, _, h => by cases h
  | k + 1, c, t, h => by
    rw [txt] at h
    split at h
    · cases h
    · split at h
      · cases h; simp
      · cases hu : txt ps es k (ps.getD c.toNat 0) with
        | none => rw [hu] at h; cases h
        | some u => rw [hu] at h; cases h; simp
/-- A code's string, or none. -/
def TmQ (o : Option (List Int)) (t : List Int) (b : Bool) : Prop := (o = some t ∧ b = true ∧ 0 < t.length) ∨ (o = none ∧ b = false ∧ t = [])
theorem s_stext (xs : List Int) (m p : Nat) (at_ hold nb er wd la st x : Int) (ps es : List Int) (mp : List Int → Option Int) (tl tu sz : Int) (k : Nat) (os : List Int) (hZ : ZI ps es tl tu) :
    Spec prog 37 [.ptr 0 0, .int .i64 x] (ShH R 0 xs m at_ hold nb er wd la st ps es mp tl tu sz k os) (fun r H => ∃ (t : List Int) (b : Bool) (n : Nat), TmQ (txM ⟨p, er, wd, ps, es, tl, os, la, st⟩ x) t b ∧ n = t.length ∧ t.length ≤ 8193 ∧
      r = .tup [.lst 9 n, .bool b] ∧ H = ShH R 0 xs m at_ hold nb er wd la st ps es mp tl tu sz k os ++ [.lst 5 1 (R.ints .u8 t)]) := by
  have hT := hZ.zt
  have hla := hT.la
  refine Spec_of_kF (D := fun i => if i = 6 then (13, []) else (0, [])) (ks := [0, 1, 4, 5, 6, 7, 8, 9]) tok mixed (fn := f37) rfl rfl rfl (by kernel_rfl) (N := 55) rfl (rs := [.tmp 4, .tmp 5]) rfl (Nat.le_of_ble_eq_true rfl) fun A C Kp E ag L q hA hC hK hE hag hL hq => ?_
  rw [← hA]
  cbv
  have hc : txM ⟨p, er, wd, ps, es, tl, os, la, st⟩ x = match txt ps es 8192 x with | some t => some t | none => if la < 0 ∨ x ≠ nextP ps tl then none else (txt ps es 8192 la).map fun t => t ++ [t.getD 0 0] := rfl
  refine call_ztext hC hA (h0 := 3) (h1 := 4) (h2 := 5) (h3 := 6) hT (TO.tv hA hT ⟨rfl, rfl, rfl, rfl⟩) fun t1 b1 k1 hT1 hk1 => ?_
  cbv
  (try simp only [ncast] at *)
  have hnt : A.not true = false := by rw [notA hA]; rfl
  have hnf : A.not false = true := by rw [notA hA]; rfl
  cases b1 with
  | true =>
    obtain ⟨h1, h1l⟩ : txt ps es 8192 x = some t1 ∧ t1.length ≤ 8192 := by
      rcases hT1 with ⟨h, _⟩ | ⟨_, h, _⟩
      · exact ⟨h, txt_len _ h⟩
      · cases h
    rw [h1] at hc
    clear hT1
    cbv
    (try simp only [ncast] at *)
    subst hA hq
    refine Fin_of ⟨[(4, .lst 9 k1), (5, .bool true)], ShH R 0 xs m at_ hold nb er wd la st ps es mp tl tu sz k os ++ [.lst 5 1 (R.ints .u8 t1)]⟩ ?_ ⟨t1, true, k1, .inl ⟨hc, rfl, txt_pos h1⟩, hk1, by omega, rfl, rfl⟩
    unfold ShH
    exact Sub_of [0, 1, 2, 3, 4, 5, 6, 7, 8, 9] (by simp [sigOk, ndG]) (by simp) (by repeat' (first | exact trivial | exact fun _ => rfl | exact fun h => absurd h (by simp) | exact subC_ints rfl | refine And.intro ?_ ?_ | rfl | (simp [subH_nil, hLts, hLt, renCk, renC, sg, Ck.cells, R_ints_ren, R_ints_hLts]; done))) (by repeat' (first | exact trivial | exact .inr ⟨trivial, rfl⟩ | exact .inr ⟨by simp [vOk, hLt, hLts], rfl⟩ | refine And.intro ?_ ?_))
  | false =>
    have h1 : txt ps es 8192 x = none := by
      rcases hT1 with ⟨_, h⟩ | ⟨h, _⟩
      · cases h
      · exact h
    rw [h1] at hc
    clear hT1
    cbv
    (try simp only [ncast] at *)
    refine ifB_intro (fun h => ?_) (fun h => ?_)
    · have h2 := h
      (try simp only [natA hA, lssA hA, leqA hA, gtrA hA, geqA hA, eqlA hA, neqA hA, notA hA, beqA hA, decide_eq_true_eq, decide_eq_false_iff_not, beq_iff_eq, beq_eq_false_iff_ne, bne_iff_ne, bne_eq_false_iff_eq, Bool.not_eq_true', Bool.not_eq_false', ncast, Int.not_lt, Int.not_le, ne_eq, not_true_eq_false, not_false_eq_true, false_or, true_and] at h2)
      (try rw [h]); clear h
      cbv
      (try simp only [ncast] at *)
      rw [if_pos (.inl h2)] at hc
      subst hA hq
      refine Fin_of ⟨[(4, .lst 9 0), (5, .bool false)], ShH R 0 xs m at_ hold nb er wd la st ps es mp tl tu sz k os ++ [.lst 5 1 (R.ints .u8 [])]⟩ ((Sub_nilT (i := 4) 5 1 rfl).trans ?_) ⟨[], false, 0, .inr ⟨hc, rfl, rfl⟩, rfl, by simp, rfl, rfl⟩
      unfold ShH
      exact Sub_of [0, 1, 2, 3, 4, 5, 6, 7, 8, 10] (by simp [sigOk, ndG]) (by simp) (by repeat' (first | exact trivial | exact fun _ => rfl | exact fun h => absurd h (by simp) | exact subC_ints rfl | refine And.intro ?_ ?_ | rfl | (simp [subH_nil, hLts, hLt, renCk, renC, sg, Ck.cells, R_ints_ren, R_ints_hLts]; done))) (by repeat' (first | exact trivial | exact .inr ⟨trivial, rfl⟩ | exact .inr ⟨by simp [vOk, hLt, hLts], rfl⟩ | refine And.intro ?_ ?_))
    · have h2 := h
      (try simp only [natA hA, lssA hA, leqA hA, gtrA hA, geqA hA, eqlA hA, neqA hA, notA hA, beqA hA, decide_eq_true_eq, decide_eq_false_iff_not, beq_iff_eq, beq_eq_false_iff_ne, bne_iff_ne, bne_eq_false_iff_eq, Bool.not_eq_true', Bool.not_eq_false', ncast, Int.not_lt, Int.not_le, ne_eq, not_true_eq_false, not_false_eq_true, false_or, true_and] at h2)
      (try rw [h]); clear h
      cbv
      (try simp only [ncast] at *)
      refine call_znext hC hA (h0 := 3) (h1 := 4) (h2 := 5) (h3 := 6) hT (TO.tv hA hT ⟨rfl, rfl, rfl, rfl⟩) fun n0 hn0 => ?_
      rw [← nextP_eq hla.1 hn0] at hc
      clear hn0
      cbv
      (try simp only [ncast] at *)
      refine ifB_intro (fun h => ?_) (fun h => ?_)
      · have h3 := h
        (try simp only [natA hA, lssA hA, leqA hA, gtrA hA, geqA hA, eqlA hA, neqA hA, notA hA, beqA hA, decide_eq_true_eq, decide_eq_false_iff_not, beq_iff_eq, beq_eq_false_iff_ne, bne_iff_ne, bne_eq_false_iff_eq, Bool.not_eq_true', Bool.not_eq_false', ncast, Int.not_lt, Int.not_le, ne_eq, not_true_eq_false, not_false_eq_true, false_or, true_and] at h3)
        (try rw [h]); clear h
        cbv
        (try simp only [ncast] at *)
        rw [if_pos (.inr h3)] at hc
        subst hA hq
        refine Fin_of ⟨[(4, .lst 9 0), (5, .bool false)], ShH R 0 xs m at_ hold nb er wd la st ps es mp tl tu sz k os ++ [.lst 5 1 (R.ints .u8 [])]⟩ ((Sub_nilT (i := 4) 5 1 rfl).trans ?_) ⟨[], false, 0, .inr ⟨hc, rfl, rfl⟩, rfl, by simp, rfl, rfl⟩
        unfold ShH
        exact Sub_of [0, 1, 2, 3, 4, 5, 6, 7, 8, 10] (by simp [sigOk, ndG]) (by simp) (by repeat' (first | exact trivial | exact fun _ => rfl | exact fun h => absurd h (by simp) | exact subC_ints rfl | refine And.intro ?_ ?_ | rfl | (simp [subH_nil, hLts, hLt, renCk, renC, sg, Ck.cells, R_ints_ren, R_ints_hLts]; done))) (by repeat' (first | exact trivial | exact .inr ⟨trivial, rfl⟩ | exact .inr ⟨by simp [vOk, hLt, hLts], rfl⟩ | refine And.intro ?_ ?_))
      · have h3 := h
        (try simp only [natA hA, lssA hA, leqA hA, gtrA hA, geqA hA, eqlA hA, neqA hA, notA hA, beqA hA, decide_eq_true_eq, decide_eq_false_iff_not, beq_iff_eq, beq_eq_false_iff_ne, bne_iff_ne, bne_eq_false_iff_eq, Bool.not_eq_true', Bool.not_eq_false', ncast, Int.not_lt, Int.not_le, ne_eq, not_true_eq_false, not_false_eq_true, false_or, true_and] at h3)
        (try rw [h]); clear h
        cbv
        (try simp only [ncast] at *)
        rw [if_neg (by omega)] at hc
        refine call_ztext hC hA (h0 := 3) (h1 := 4) (h2 := 5) (h3 := 6) hT (TO.tv hA hT ⟨rfl, rfl, rfl, rfl⟩) fun t2 b2 k2 hT2 hk2 => ?_
        cbv
        (try simp only [ncast] at *)
        cases b2 with
        | false =>
          have h4 : txt ps es 8192 la = none := by
            rcases hT2 with ⟨_, h⟩ | ⟨h, _⟩
            · cases h
            · exact h
          rw [h4] at hc
          clear hT2
          simp only [hnf]
          cbv
          (try simp only [ncast] at *)
          subst hA hq
          refine Fin_of ⟨[(4, .lst 9 0), (5, .bool false)], ShH R 0 xs m at_ hold nb er wd la st ps es mp tl tu sz k os ++ [.lst 5 1 (R.ints .u8 [])]⟩ ((Sub_nilT (i := 4) 5 1 rfl).trans ?_) ⟨[], false, 0, .inr ⟨hc, rfl, rfl⟩, rfl, by simp, rfl, rfl⟩
          unfold ShH
          exact Sub_of [0, 1, 2, 3, 4, 5, 6, 7, 8, 11] (by simp [sigOk, ndG]) (by simp) (by repeat' (first | exact trivial | exact fun _ => rfl | exact fun h => absurd h (by simp) | exact subC_ints rfl | refine And.intro ?_ ?_ | rfl | (simp [subH_nil, hLts, hLt, renCk, renC, sg, Ck.cells, R_ints_ren, R_ints_hLts]; done))) (by repeat' (first | exact trivial | exact .inr ⟨trivial, rfl⟩ | exact .inr ⟨by simp [vOk, hLt, hLts], rfl⟩ | refine And.intro ?_ ?_))
        | true =>
          obtain ⟨h4, h4l⟩ : txt ps es 8192 la = some t2 ∧ t2.length ≤ 8192 := by
            rcases hT2 with ⟨h, _⟩ | ⟨_, h, _⟩
            · exact ⟨h, txt_len _ h⟩
            · cases h
          have h4p := txt_pos h4
          rw [h4] at hc
          clear hT2
          simp only [hnt]
          cbv
          (try simp only [ncast] at *)
          refine rdA hA (by omega) (by show 0 + (0 : Int).toNat < _; simpa using h4p) fun y hy => ?_
          have hc2 : txM ⟨p, er, wd, ps, es, tl, os, la, st⟩ x = some (t2 ++ [y]) := by rw [hc, hy]; rfl
          clear hc hy
          cbv
          (try simp only [ncast] at *)
          have haP := apdA1 hA .u8 t2 y
          have ek : A.add k2 1 = k2 + 1 := by subst hA; rfl
          refine ⟨ints_lenA hA hk2, fitOf hA (by unfold room; (subst hA; (try dsimp only [R]); (try simp only [ncast, Go.IntKind.wrap_i64] at *); first | omega | (dsimp only [R] at *; omega))), ?_⟩
          cbv
          (try simp only [ncast] at *)
          simp only [ek]
          subst hA hq
          refine Fin_of ⟨[(4, .lst 9 (k2 + 1)), (5, .bool true)], ShH R 0 xs m at_ hold nb er wd la st ps es mp tl tu sz k os ++ [.lst 5 1 (R.ints .u8 (t2 ++ [y]))]⟩ ?_ ⟨t2 ++ [y], true, k2 + 1, .inl ⟨hc2, rfl, by simp⟩, by simp; omega, by simp; omega, rfl, rfl⟩
          unfold ShH
          exact Sub_of [0, 1, 2, 3, 4, 5, 6, 7, 8, 12] (by simp [sigOk, ndG]) (by simp) (by repeat' (first | exact trivial | exact fun _ => rfl | exact fun h => absurd h (by simp) | exact subC_ints rfl | exact subC_ints (congrArg (fun l => some (Ck.lst _ _ l)) haP) | refine And.intro ?_ ?_ | rfl | (simp [subH_nil, hLts, hLt, renCk, renC, sg, Ck.cells, R_ints_ren, R_ints_hLts, haP]; done))) (by repeat' (first | exact trivial | exact .inr ⟨trivial, rfl⟩ | exact .inr ⟨by simp [vOk, hLt, hLts, haP], rfl⟩ | refine And.intro ?_ ?_))

/-- Behind tell. -/
def ShT (A : Ar) (xs : List Int) (m : Nat) (at_ hold nb er wd la st : Int) (ps es : List Int) (mp : List Int → Option Int) (tl tu sz : Int) (k : Nat) (os t : List Int) : List Ck :=
  [.box 53 [.ptr 1 0, .ptr 3 0, .ptr 7 0, .int .i64 wd, .int .i64 la, .int .i64 st],
   .box 76 [.lst 2 m, .int .i64 at_, .int .u64 hold, .int .i64 nb, .int .i64 er, .bool true], .lst 5 1 (A.ints .u8 xs),
   .box 79 [.lst 4 8192, .lst 5 8192, .mapv 6, .int .i64 tl, .int .i64 tu], .lst 3 1 (A.ints .i64 ps), .lst 5 1 (A.ints .u8 es), .mp [.i64, .u8] mp,
   .box 74 [.int .i64 1, .int .i64 sz, .bool false, .lst 10 k], .gone, .vw (A.ints .u8 t), .lst 5 1 (A.ints .u8 os)]
theorem s_stell (xs : List Int) (m : Nat) (at_ hold nb er wd la st : Int) (ps es : List Int) (mp : List Int → Option Int) (tl tu sz : Int) (k n : Nat) (os t : List Int) (hk : k = os.length) (hn : n = t.length) (hos : (os.length : Int) ≤ sz) (hol : os.length ≤ 90000000000) (htl : t.length ≤ 10000) :
    Spec prog 38 [.ptr 0 0, .sl 9 0 n false] (ShH R 0 xs m at_ hold nb er wd la st ps es mp tl tu sz k os ++ [.vw (R.ints .u8 t)]) (fun r H => ∃ (e : Int) (k' : Nat) (os' : List Int), ((t.length : Int) ≤ sz - os.length → e = 0 ∧ os' = os ++ t) ∧ (sz - os.length < t.length → e = 9) ∧ k' = os'.length ∧
      r = .int .i64 e ∧ H = ShT R xs m at_ hold nb er wd la st ps es mp tl tu sz k' os' t) := by
  refine Spec_of_kF (D := fun i => (0, [])) (ks := [0, 1, 4, 6, 7, 8, 9, 10]) tok mixed (fn := f38) rfl rfl rfl (by kernel_rfl) (N := 24) rfl (rs := [.tmp 4]) rfl (Nat.le_of_ble_eq_true rfl) fun A C Kp E ag L q hA hC hK hE hag hL hq => ?_
  rw [← hA]
  cbv
  rw [hL]
  refine ⟨fun kk s => ∃ (i : Int) (j k' : Nat) (os' : List Int), i = (j : Int) ∧ j ≤ t.length ∧ os' = os ++ t.take j ∧ k' = os'.length ∧ (os'.length : Int) ≤ sz ∧ kk = t.length - j ∧ s = ⟨[(0, .ptr 0 0), (8, .sl 9 0 n false), (9, .int .i64 (A.nat n)), (10, .int .i64 i)], ShT A xs m at_ hold nb er wd la st ps es mp tl tu sz k' os' t⟩,
    ⟨t.length, ⟨[(0, .ptr 0 0), (8, .sl 9 0 n false), (9, .int .i64 (A.nat n)), (10, .int .i64 0)], ShT A xs m at_ hold nb er wd la st ps es mp tl tu sz k os t⟩, ?_, 0, 0, k, os, rfl, by omega, by simp, hk, hos, rfl, rfl⟩, ?_⟩
  · subst hA
    unfold ShH ShT
    exact Sub_of [0, 1, 2, 3, 4, 5, 6, 7, 8, 9, 8] (by simp [sigOk, ndG]) (by simp) (by repeat' (first | exact trivial | exact fun _ => rfl | exact fun h => absurd h (by simp) | exact subC_ints rfl | refine And.intro ?_ ?_ | rfl | (simp [subH_nil, hLts, hLt, renCk, renC, sg, Ck.cells, R_ints_ren, R_ints_hLts]; done))) (by repeat' (first | exact trivial | exact .inr ⟨trivial, rfl⟩ | exact .inr ⟨by simp [vOk, hLt, hLts], rfl⟩ | refine And.intro ?_ ?_))
  rintro kk _ ⟨i, j, k', os', hi, hj, ho, hk', hle, hkk, rfl⟩
  have hol2 : os'.length = os.length + j := by rw [ho, List.length_append, List.length_take]; omega
  cbv
  (try simp only [ncast] at *)
  refine ifB_intro (fun h => ?_) (fun h => ?_)
  · have h1 := h
    (try simp only [natA hA, lssA hA, leqA hA, gtrA hA, geqA hA, eqlA hA, neqA hA, notA hA, beqA hA, decide_eq_true_eq, decide_eq_false_iff_not, beq_iff_eq, beq_eq_false_iff_ne, bne_iff_ne, bne_eq_false_iff_eq, Bool.not_eq_true', Bool.not_eq_false', ncast, Int.not_lt, Int.not_le, ne_eq, not_true_eq_false, not_false_eq_true, false_or, true_and] at h1)
    (try rw [h]); clear h
    cbv
    (try simp only [ncast] at *)
    refine rdA hA (by omega) (by omega) fun y hy => ?_
    have hy : t.take (j + 1) = t.take j ++ [y] := by
      rw [List.take_add_one, List.getElem?_eq_getElem (by omega), hy, show 0 + i.toNat = j by omega]
      simp [List.getD, show j < t.length by omega]
    cbv
    (try simp only [ncast] at *)
    refine call_lit hC hA (hb := 7) (hr := 10) hk' (by omega) (by decide) (by decide) rfl rfl fun e k2 os2 hQ hk2 => ?_
    cbv
    (try simp only [ncast] at *)
    refine ifB_intro (fun h => ?_) (fun h => ?_)
    · have h2 := h
      (try simp only [natA hA, lssA hA, leqA hA, gtrA hA, geqA hA, eqlA hA, neqA hA, notA hA, beqA hA, decide_eq_true_eq, decide_eq_false_iff_not, beq_iff_eq, beq_eq_false_iff_ne, bne_iff_ne, bne_eq_false_iff_eq, Bool.not_eq_true', Bool.not_eq_false', ncast, Int.not_lt, Int.not_le, ne_eq, not_true_eq_false, not_false_eq_true, false_or, true_and] at h2)
      (try rw [h]); clear h
      cbv
      (try simp only [ncast] at *)
      have h3 : (os'.length : Int) = sz := by
        rcases hQ with ⟨h, _⟩ | ⟨_, h, _⟩
        · exact h
        · omega
      have h4 : e = 9 := by
        rcases hQ with ⟨_, h, _⟩ | ⟨_, h, _⟩
        · exact h
        · omega
      subst hA hq
      refine Fin_of ⟨[(4, .int .i64 e)], ShT R xs m at_ hold nb er wd la st ps es mp tl tu sz k2 os2 t⟩ ?_ ⟨e, k2, os2, fun h => by omega, fun _ => h4, hk2, rfl, rfl⟩
      unfold ShH ShT
      exact Sub_of [0, 1, 2, 3, 4, 5, 6, 7, 8, 9, 11] (by simp [sigOk, ndG]) (by simp) (by repeat' (first | exact trivial | exact fun _ => rfl | exact fun h => absurd h (by simp) | exact subC_ints rfl | refine And.intro ?_ ?_ | rfl | (simp [subH_nil, hLts, hLt, renCk, renC, sg, Ck.cells, R_ints_ren, R_ints_hLts]; done))) (by repeat' (first | exact trivial | exact .inr ⟨trivial, rfl⟩ | exact .inr ⟨by simp [vOk, hLt, hLts], rfl⟩ | refine And.intro ?_ ?_))
    · have h2 := h
      (try simp only [natA hA, lssA hA, leqA hA, gtrA hA, geqA hA, eqlA hA, neqA hA, notA hA, beqA hA, decide_eq_true_eq, decide_eq_false_iff_not, beq_iff_eq, beq_eq_false_iff_ne, bne_iff_ne, bne_eq_false_iff_eq, Bool.not_eq_true', Bool.not_eq_false', ncast, Int.not_lt, Int.not_le, ne_eq, not_true_eq_false, not_false_eq_true, false_or, true_and] at h2)
      (try rw [h]); clear h
      cbv
      (try simp only [ncast] at *)
      obtain ⟨h3, h4⟩ : (os'.length : Int) ≠ sz ∧ os2 = os' ++ [y] := by
        rcases hQ with ⟨_, h, _⟩ | ⟨h, _, h'⟩
        · omega
        · exact ⟨h, h'⟩
      have e2 : A.bin .add .i64 i 1 = i + 1 := by rw [addA hA, wrap64 (by omega)]
      simp only [e2]
      subst hag
      refine ⟨t.length - (j + 1), ⟨[(0, .ptr 0 0), (8, .sl 9 0 n false), (9, .int .i64 (A.nat n)), (10, .int .i64 (i + 1))], ShT A xs m at_ hold nb er wd la st ps es mp tl tu sz k2 os2 t⟩, by omega, ?_, i + 1, j + 1, k2, os2, by omega, by omega, by rw [h4, ho, hy, List.append_assoc], hk2, by rw [h4, List.length_append, List.length_singleton]; omega, by omega, rfl⟩
      subst hA
      unfold ShH ShT
      exact Sub_of [0, 1, 2, 3, 4, 5, 6, 7, 8, 9, 11] (by simp [sigOk, ndG]) (by simp) (by repeat' (first | exact trivial | exact fun _ => rfl | exact fun h => absurd h (by simp) | exact subC_ints rfl | refine And.intro ?_ ?_ | rfl | (simp [subH_nil, hLts, hLt, renCk, renC, sg, Ck.cells, R_ints_ren, R_ints_hLts]; done))) (by repeat' (first | exact trivial | exact .inr ⟨trivial, rfl⟩ | exact .inr ⟨by simp [vOk, hLt, hLts], rfl⟩ | refine And.intro ?_ ?_))
  · have h1 := h
    (try simp only [natA hA, lssA hA, leqA hA, gtrA hA, geqA hA, eqlA hA, neqA hA, notA hA, beqA hA, decide_eq_true_eq, decide_eq_false_iff_not, beq_iff_eq, beq_eq_false_iff_ne, bne_iff_ne, bne_eq_false_iff_eq, Bool.not_eq_true', Bool.not_eq_false', ncast, Int.not_lt, Int.not_le, ne_eq, not_true_eq_false, not_false_eq_true, false_or, true_and] at h1)
    (try rw [h]); clear h
    cbv
    (try simp only [ncast] at *)
    have hjl : j = t.length := by omega
    rw [hjl, List.take_length] at ho
    subst hA hq
    refine Fin_of ⟨[(4, .int .i64 0)], ShT R xs m at_ hold nb er wd la st ps es mp tl tu sz k' os' t⟩ ?_ ⟨0, k', os', fun _ => ⟨rfl, ho⟩, fun h => by omega, hk', rfl, rfl⟩
    unfold ShH ShT
    exact Sub_of [0, 1, 2, 3, 4, 5, 6, 7, 8, 9, 10] (by simp [sigOk, ndG]) (by simp) (by repeat' (first | exact trivial | exact fun _ => rfl | exact fun h => absurd h (by simp) | exact subC_ints rfl | refine And.intro ?_ ?_ | rfl | (simp [subH_nil, hLts, hLt, renCk, renC, sg, Ck.cells, R_ints_ren, R_ints_hLts]; done))) (by repeat' (first | exact trivial | exact .inr ⟨trivial, rfl⟩ | exact .inr ⟨by simp [vOk, hLt, hLts], rfl⟩ | refine And.intro ?_ ?_))
end Go.Sx

/- shrink: the decoder's step. -/
set_option maxRecDepth 100000
set_option maxHeartbeats 4000000
set_option linter.unusedVariables false
set_option linter.unusedSimpArgs false
namespace Go.Sx
open Go.Proofs.Try

section
variable {A : Ar} {C : CallT} {s : St} {κ : List Nat → SV → List Ck → Prop} {h m p a b k : Nat} {xs ps es os : List Int} {at_ hold nb er wd la st tl tu sz : Int} {mp : List Int → Option Int}
theorem call_sctl (hC : C = CallX prog) (hA : A = R) (hx : RX xs m) (hF : RF xs p a b at_ hold nb) (hw : 9 ≤ wd ∧ wd ≤ 13) (hst : 0 ≤ st ∧ st ≤ 1000000000000000) (hZ : ZI ps es tl tu) (kO : ShO A s.H h xs m at_ hold nb er wd la st ps es mp tl tu sz k os)
    (hk : ∀ (a b p' : Nat) (at_ hold nb er' wd' st' e : Int) (ps' : List Int) (mp' : List Int → Option Int) (tl' tu' : Int), RF xs p' a b at_ hold nb → ZI ps' es tl' tu' → ctM xs ⟨p, er, wd, ps, es, tl, os, la, st⟩ = (⟨p', er', wd', ps', es, tl', os, la, st'⟩, e) →
      κ (tgs (shL h)) (.int .i64 e) (setSh A s.H h xs m at_ hold nb er' wd' la st' ps' es mp' tl' tu' sz k os)) : C 36 [.ptr h 0] s κ := by
  have hS := s_sctl xs m p a b at_ hold nb er wd la st ps es mp tl tu sz k os hx hF hw hst hZ
  rw [← hA] at hS
  have hM := matchSh hA (n := s.H.length) (f := []) (H := []) kO (linkSh _ _ _) (by simp [shL]) (by simp [matchH])
  simp only [List.append_nil] at hM
  refine cal_of hC hS (shL h) (shL_ok h) hM ⟨⟨(show 0 < 9 by omega), trivial, rfl⟩, trivial⟩ ?_
  rintro _ _ ⟨a', b', p', at', hold', nb', er', wd', st', e, ps', mp', tl', tu', h1, h2, h3, rfl, rfl⟩
  exact ⟨_, _, _, rfl, rfl, backSh hA .., hk a' b' p' at' hold' nb' er' wd' st' e ps' mp' tl' tu' h1 h2 h3⟩
theorem call_stext (hC : C = CallX prog) (hA : A = R) (hZ : ZI ps es tl tu) {x : Int} (kO : ShO A s.H h xs m at_ hold nb er wd la st ps es mp tl tu sz k os)
    (hk : ∀ (t : List Int) (b : Bool) (n : Nat), TmQ (txM ⟨p, er, wd, ps, es, tl, os, la, st⟩ x) t b → n = t.length → t.length ≤ 8193 →
      κ (tgs (shL h)) (.tup [.lst (len1 s.H) n, .bool b]) (apd (setSh A s.H h xs m at_ hold nb er wd la st ps es mp tl tu sz k os) [.lst 5 1 (A.ints .u8 t)])) : C 37 [.ptr h 0, .int .i64 x] s κ := by
  have hS := s_stext xs m p at_ hold nb er wd la st x ps es mp tl tu sz k os hZ
  rw [← hA] at hS
  have hM := matchSh hA (n := s.H.length) (f := []) (H := []) kO (linkSh _ _ _) (by simp [shL]) (by simp [matchH])
  simp only [List.append_nil] at hM
  refine cal_of hC hS (shL h) (shL_ok h) hM ⟨⟨(show 0 < 9 by omega), trivial, rfl⟩, ⟨trivial, trivial, rfl⟩, trivial⟩ ?_
  rintro _ _ ⟨t, b', n, h1, h2, h3, rfl, rfl⟩
  refine ⟨_, .tup [.lst (len1 s.H) n, .bool b'], _, rfl, ?_, ?_, hk t b' n h1 h2 h3⟩
  · rw [len1_eq]; rfl
  · rw [apd_eq, ← backSh hA, backH_app rfl]
    simp only [List.map_cons, List.map_nil, renCk, renA hA]
theorem call_stell (hC : C = CallX prog) (hA : A = R) {t : List Int} {n ht : Nat} (hk0 : k = os.length) (hn : n = t.length) (hos : (os.length : Int) ≤ sz) (hol : os.length ≤ 90000000000) (htl : t.length ≤ 10000) (hht : h + 8 < ht) (kO : ShO A s.H h xs m at_ hold nb er wd la st ps es mp tl tu sz k os) (kt : s.H[ht]? = some (.lst 5 1 (A.ints .u8 t)))
    (hk : ∀ (e : Int) (k' : Nat) (os' : List Int), ((t.length : Int) ≤ sz - os.length → e = 0 ∧ os' = os ++ t) → (sz - os.length < t.length → e = 9) → k' = os'.length →
      κ (tgs (shL h)) (.int .i64 e) (apd (set1 (set1 s.H (h + 7) (.box 74 [.int .i64 1, .int .i64 sz, .bool false, .lst (len1 s.H) k'])) (h + 8) .gone) [.lst 5 1 (A.ints .u8 os')])) : C 38 [.ptr h 0, .lst ht n] s κ := by
  have hS := s_stell xs m at_ hold nb er wd la st ps es mp tl tu sz k n os t hk0 hn hos hol htl
  rw [← hA] at hS
  have hM := matchSh hA (n := s.H.length) (f := [(ht, 0, false)]) (H := [.vw (A.ints .u8 t)]) kO (linkSh _ _ _) (by simp [shL]) ⟨hLtsA hA .., zOksA hA .., by rw [renA hA, A_ints_len hA, ← hn]; exact zcells hA kt rfl hn.symm, trivial⟩
  refine cal_of hC hS (shL h ++ [(ht, 0, false)]) ?_ hM ⟨⟨(show 0 < 10 by omega), trivial, rfl⟩, ⟨(show 9 < 10 by omega), rfl, rfl, rfl, rfl⟩, trivial⟩ ?_
  · unfold shL
    simp only [List.cons_append, List.nil_append, lkOk, List.mem_cons, List.not_mem_nil, or_false, forall_eq_or_imp, forall_eq]
    refine ⟨?_, ?_⟩ <;> simp <;> omega
  rintro _ _ ⟨e, k', os', h1, h2, h3, rfl, rfl⟩
  refine ⟨_, _, _, ?_, rfl, ?_, hk e k' os' h1 h2 h3⟩
  · rfl
  · rw [apd_eq, set1_eq, set1_eq, len1_eq]
    unfold backH
    simp only [ShT, List.map_cons, List.map_nil, renCk, renA hA]
    unfold shL
    simp only [List.cons_append, List.nil_append, setAll, List.length_cons, List.length_nil, List.drop_succ_cons, List.drop_zero]
    congr 1
    show ((((((((s.H.set h (.box 53 [.ptr (h + 1) 0, .ptr (h + 3) 0, .ptr (h + 7) 0, .int .i64 wd, .int .i64 la, .int .i64 st])).set (h + 1) (.box 76 [.lst (h + 2) m, .int .i64 at_, .int .u64 hold, .int .i64 nb, .int .i64 er, .bool true])).set (h + 2) _).set (h + 3) (.box 79 [.lst (h + 4) 8192, .lst (h + 5) 8192, .mapv (h + 6), .int .i64 tl, .int .i64 tu])).set (h + 4) _).set (h + 5) _).set (h + 6) _).set (h + 7) (.box 74 [.int .i64 1, .int .i64 sz, .bool false, .lst (s.H.length + 0) k'])).set (h + 8) .gone = _
    rw [set_id kO.o0, set_id kO.o1, set_id kO.o2, set_id kO.o3, set_id kO.o4, set_id kO.o5, set_id kO.o6]
    rfl
end
end Go.Sx
