/- Contracts of functions, and what is plain about them: texts put together. -/
import Derived.Test.YtpakjokbnjbkjaaDoorMSc
import Derived.Laws.BitsLemmas
/- Bytes as one number, the lowest first. -/
set_option linter.unusedVariables false
namespace Go.Sx

/-- A row of bytes. -/
def Byt (xs : List Int) : Prop := ∀ x ∈ xs, 0 ≤ x ∧ x < 256

def V : List Int → Int
  | [] => 0
  | x :: r => x + 256 * V r

theorem pow_pos2 (n : Nat) : (0 : Int) < 2 ^ n := Int.pow_pos (by decide)

theorem V_app : ∀ (xs ys : List Int), V (xs ++ ys) = V xs + 2 ^ (8 * xs.length) * V ys
  | [], ys => by simp [V]
  | x :: r, ys => by
    have : (2 : Int) ^ (8 * (r.length + 1)) = 256 * 2 ^ (8 * r.length) := by
      rw [show 8 * (r.length + 1) = 8 + 8 * r.length by omega, Int.pow_add]; rfl
    simp only [List.cons_append, V, List.length_cons, this, V_app r ys]
    rw [Int.mul_add, Int.mul_assoc]; omega

theorem V_bnd : ∀ {xs : List Int}, Byt xs → 0 ≤ V xs ∧ V xs < 2 ^ (8 * xs.length)
  | [], _ => by simp [V]
  | x :: r, h => by
    obtain ⟨h1, h2⟩ := V_bnd (xs := r) fun y hy => h y (List.mem_cons_of_mem _ hy)
    obtain ⟨h3, h4⟩ := h x (List.mem_cons_self ..)
    have : (2 : Int) ^ (8 * (r.length + 1)) = 256 * 2 ^ (8 * r.length) := by
      rw [show 8 * (r.length + 1) = 8 + 8 * r.length by omega, Int.pow_add]; rfl
    simp only [V, List.length_cons, this]
    omega

theorem Byt.take {xs : List Int} (h : Byt xs) (n : Nat) : Byt (xs.take n) := fun x hx => h x (List.mem_of_mem_take hx)
theorem Byt.drop {xs : List Int} (h : Byt xs) (n : Nat) : Byt (xs.drop n) := fun x hx => h x (List.mem_of_mem_drop hx)
theorem Byt.get {xs : List Int} (h : Byt xs) {i : Nat} (hi : i < xs.length) : 0 ≤ xs.getD i 0 ∧ xs.getD i 0 < 256 := by
  have : xs.getD i 0 = xs[i] := by simp [List.getD, hi]
  rw [this]; exact h _ (List.getElem_mem hi)

theorem V_take_succ {xs : List Int} {i : Nat} (hi : i < xs.length) : V (xs.take (i + 1)) = V (xs.take i) + 2 ^ (8 * i) * xs.getD i 0 := by
  have e : xs.take (i + 1) = xs.take i ++ [xs.getD i 0] := by
    rw [List.take_add_one]; simp [List.getD, hi]
  rw [e, V_app]
  simp only [V, List.length_take, Nat.min_eq_left (Nat.le_of_lt hi), Int.mul_zero, Int.add_zero]

theorem V_take {xs : List Int} (h : Byt xs) {i : Nat} (hi : i ≤ xs.length) : V xs % 2 ^ (8 * i) = V (xs.take i) := by
  have e : V xs = V (xs.take i) + 2 ^ (8 * i) * V (xs.drop i) := by
    conv => lhs; rw [← List.take_append_drop i xs]
    rw [V_app, List.length_take, Nat.min_eq_left hi]
  have hb := V_bnd (h.take i)
  rw [List.length_take, Nat.min_eq_left hi] at hb
  rw [e, Int.add_mul_emod_self_left, Int.emod_eq_of_lt hb.1 hb.2]

/-- A number's bits from a place on, some of them. -/
def cut (v : Int) (p n : Nat) : Int := v / 2 ^ p % 2 ^ n

theorem cut_nonneg {v : Int} (h : 0 ≤ v) (p n : Nat) : 0 ≤ cut v p n := Int.emod_nonneg _ (Int.ne_of_gt (pow_pos2 n))
theorem cut_lt (v : Int) (p n : Nat) : cut v p n < 2 ^ n := Int.emod_lt_of_pos _ (pow_pos2 n)

theorem div_mod_pow (v : Int) (p q : Nat) : v % 2 ^ (p + q) / 2 ^ p = cut v p q := by
  unfold cut
  have hp := pow_pos2 p
  have hq := pow_pos2 q
  rw [Int.pow_add]
  -- v = v % (P*Q) + P*Q*k
  have e1 : v = v % (2 ^ p * 2 ^ q) + 2 ^ p * 2 ^ q * (v / (2 ^ p * 2 ^ q)) := (Int.emod_add_mul_ediv v _).symm
  have hr0 : 0 ≤ v % (2 ^ p * 2 ^ q) := Int.emod_nonneg _ (Int.ne_of_gt (Int.mul_pos hp hq))
  have hr1 : v % (2 ^ p * 2 ^ q) < 2 ^ p * 2 ^ q := Int.emod_lt_of_pos _ (Int.mul_pos hp hq)
  have e2 : v / 2 ^ p = v % (2 ^ p * 2 ^ q) / 2 ^ p + 2 ^ q * (v / (2 ^ p * 2 ^ q)) := by
    conv => lhs; rw [e1]
    rw [Int.mul_assoc, Int.add_mul_ediv_left _ _ (Int.ne_of_gt hp)]
  rw [e2, Int.add_mul_emod_self_left, Int.emod_eq_of_lt (Int.ediv_nonneg hr0 (Int.le_of_lt hp)) (Int.ediv_lt_of_lt_mul hp (by rw [Int.mul_comm (2 ^ q)]; exact hr1))]

/-- The bits that the reader has in hand. -/
theorem hold_eq {xs : List Int} (h : Byt xs) {a b p : Nat} (ha : a ≤ xs.length) (e : 8 * a = p + b) : V (xs.take a) / 2 ^ p = cut (V xs) p b := by
  rw [← V_take h ha, e, div_mod_pow]

theorem cut_succ {xs : List Int} (h : Byt xs) {a b p : Nat} (ha : a < xs.length) (e : 8 * a = p + b) : cut (V xs) p (b + 8) = cut (V xs) p b + 2 ^ b * xs.getD a 0 := by
  rw [← hold_eq h (Nat.succ_le_of_lt ha) (p := p) (b := b + 8) (by omega), ← hold_eq h (Nat.le_of_lt ha) e, V_take_succ ha, e, Int.pow_add, Int.mul_assoc, Int.add_mul_ediv_left _ _ (Int.ne_of_gt (pow_pos2 p))]

theorem cut_cut (v : Int) (p b n : Nat) (hn : n ≤ b) : cut v p b % 2 ^ n = cut v p n := by
  unfold cut
  obtain ⟨k, rfl⟩ : ∃ k, b = n + k := ⟨b - n, by omega⟩
  rw [Int.pow_add, Int.emod_emod_of_dvd _ ⟨_, rfl⟩]
theorem cut_drop (v : Int) (p b n : Nat) (hn : n ≤ b) : cut v p b / 2 ^ n = cut v (p + n) (b - n) := by
  obtain ⟨k, rfl⟩ : ∃ k, b = n + k := ⟨b - n, by omega⟩
  rw [Nat.add_sub_cancel_left]
  have : cut v p (n + k) = v / 2 ^ p % 2 ^ (n + k) := rfl
  rw [this, div_mod_pow]
  unfold cut
  rw [Int.pow_add, Int.ediv_ediv_of_nonneg (Int.le_of_lt (pow_pos2 p))]

end Go.Sx

/- The reader: contracts of its inner functions. -/
set_option maxRecDepth 100000
set_option maxHeartbeats 4000000
set_option linter.unusedVariables false
namespace Go.Sx
open Go.Proofs.Tryd

theorem wrap64 {n : Int} (h : -9223372036854775808 ≤ n ∧ n ≤ 9223372036854775807) : IntKind.i64.wrap n = n := by rw [Go.IntKind.wrap_i64]; omega
theorem wrapu64 {n : Int} (h : 0 ≤ n ∧ n < 18446744073709551616) : IntKind.u64.wrap n = n := by rw [Go.IntKind.wrap_u64]; omega
theorem wrapu32 {n : Int} (h : 0 ≤ n ∧ n < 4294967296) : IntKind.u32.wrap n = n := by rw [Go.IntKind.wrap_u32]; omega

theorem wu64 : ∀ n : Int, 0 ≤ n → n < 2 ^ 64 → IntKind.u64.wrap n = n := fun n h0 h1 => wrapu64 ⟨h0, h1⟩

theorem shl64 {a : Int} {n : Nat} (hn : n ≤ 64) (h0 : 0 ≤ a) (h1 : a * 2 ^ n < 18446744073709551616) : shlI .u64 a n = a * 2 ^ n := by
  unfold shlI
  rw [show min (n : Int).toNat IntKind.u64.bits = n by show min n 64 = n; omega]
  exact wrapu64 ⟨Int.mul_nonneg h0 (Int.le_of_lt (pow_pos2 n)), h1⟩
theorem shr64 {a : Int} {n : Nat} (hn : n ≤ 64) : shrI .u64 a n = a / 2 ^ n := by
  unfold shrI
  rw [show min (n : Int).toNat IntKind.u64.bits = n by show min n 64 = n; omega]
  exact Int.fdiv_eq_ediv_of_nonneg _ (Int.le_of_lt (pow_pos2 n))
theorem mask64 {a : Int} {n : Nat} (hn : n ≤ 63) (h0 : 0 ≤ a) (h1 : a < 18446744073709551616) : band .u64 a (IntKind.u64.wrap (shlI .u64 1 n - 1)) = a % 2 ^ n := by
  have hp := pow_pos2 n
  have hq : (2 : Int) ^ n ≤ 2 ^ 63 := by exact_mod_cast Nat.pow_le_pow_right (by decide) hn
  rw [shl64 (by omega) (by decide) (by omega), Int.one_mul, wrapu64 (by omega)]
  exact bits_mask .u64 64 (Nat.le_refl _) wu64 n (by omega) a h0 h1
theorem or64 {a b : Int} {n : Nat} (h0 : 0 ≤ a) (h1 : a < 2 ^ n) (h2 : 0 ≤ b) (h3 : a + b * 2 ^ n < 18446744073709551616) : bor .u64 a (b * 2 ^ n) = a + b * 2 ^ n := by
  have hp := pow_pos2 n
  have hb := Int.mul_nonneg h2 (Int.le_of_lt hp)
  have e : bor .u64 a (b * 2 ^ n) = bor .u64 (b * 2 ^ n) a := by
    unfold bor; rw [BitVec.or_comm]
  rw [e, Int.add_comm]
  exact bits_join .u64 64 (Nat.le_refl _) wu64 n _ _ hb (Int.mul_emod_left _ _) (by show _ < (18446744073709551616 : Int); omega) h0 h1 (by show _ < (18446744073709551616 : Int); omega)

/-- A reader's state: p bits are read, the next a bytes less b bits. -/
def RF (xs : List Int) (p a b : Nat) (at_ hold nb : Int) : Prop :=
  at_ = a ∧ nb = b ∧ 8 * a = p + b ∧ a ≤ xs.length ∧ b ≤ 39 ∧ hold = cut (V xs) p b

/-- A row that is a reader's. -/
def RX (xs : List Int) (m : Nat) : Prop := Byt xs ∧ m = xs.length ∧ xs.length ≤ 1000000000000

theorem s_right (n : Int) : Spec prog 45 [.int .i64 n] [] (fun r H => r = .bool (decide (0 ≤ n) && decide (n ≤ 32)) ∧ H = []) := by
  refine Spec_of_xX (D := fun _ => (0, [])) (ks := [0, 2]) tok mixed (fn := f45) rfl rfl rfl (by kernel_rfl) (N := 9) rfl (rs := [.tmp 2]) rfl (by show 1 ≤ 9; omega) fun A C ag L q hA hC hag hL hq => ?_
  cbv
  refine ifB_intro (fun h => ?_) (fun h => ?_)
  · rw [h]
    cbv
    subst hA hq
    have h : 0 ≤ n := of_decide_eq_true h
    exact ⟨by simp [h]; rfl, rfl⟩
  · rw [h]
    cbv
    subst hA hq
    have h : ¬ 0 ≤ n := of_decide_eq_false h
    exact ⟨by simp [h], rfl⟩

theorem s_err (m : Nat) (at_ hold nb er : Int) : Spec prog 28 [.ptr 0 0] [.vw [.lst 1 m, .int .i64 at_, .int .u64 hold, .int .i64 nb, .int .i64 er, .bool true], .vw []]
    (fun r H => r = .int .i64 er ∧ H = [.vw [.lst 1 m, .int .i64 at_, .int .u64 hold, .int .i64 nb, .int .i64 er, .bool true], .vw []]) := by
  refine Spec_of_xX (D := fun _ => (0, [])) (ks := [0, 2]) tok mixed (fn := f28) rfl rfl rfl (by kernel_rfl) (N := 16) rfl (rs := [.tmp 2]) rfl (by show 1 ≤ 16; omega) fun A C ag L q hA hC hag hL hq => ?_
  cbv
  refine ifB_intro (fun h => ?_) (fun h => ?_)
  · subst hA; exact absurd h (by decide)
  · cbv
    subst hq
    exact ⟨rfl, rfl⟩

theorem s_drop (m : Nat) (xs : List Int) (at_ hold nb er k : Int) (hk : 0 ≤ k) : Spec prog 47 [.ptr 0 0, .int .i64 k] [.box 70 [.lst 1 m, .int .i64 at_, .int .u64 hold, .int .i64 nb, .int .i64 er, .bool true], .lst 5 1 (R.ints .u8 xs)]
    (fun r H => r = .tup [] ∧ H = [.box 70 [.lst 1 m, .int .i64 at_, .int .u64 (shrI .u64 hold k), .int .i64 (IntKind.i64.wrap (nb - k)), .int .i64 er, .bool true], .lst 5 1 (R.ints .u8 xs)]) := by
  refine Spec_of_xX (D := fun _ => (0, [])) (ks := [0, 1]) tok mixed (fn := f47) rfl rfl rfl (by kernel_rfl) (N := 20) rfl (rs := []) rfl (by show 2 ≤ 20; omega) fun A C ag L q hA hC hag hL hq => ?_
  rw [← hA]
  cbv
  subst hA hq
  exact ⟨hk, rfl, rfl⟩

theorem s_fill (xs : List Int) (m p a b : Nat) (hx : RX xs m) (at_ hold nb er n : Int) (hn : n ≤ 32) (hF : RF xs p a b at_ hold nb) :
    Spec prog 46 [.ptr 0 0, .int .i64 n] [.box 70 [.lst 1 m, .int .i64 at_, .int .u64 hold, .int .i64 nb, .int .i64 er, .bool true], .lst 5 1 (R.ints .u8 xs)]
      (fun r H => r = .tup [] ∧ ∃ (a b : Nat) (at_ hold nb : Int), RF xs p a b at_ hold nb ∧ (n ≤ nb ∨ a = xs.length) ∧ H = [.box 70 [.lst 1 m, .int .i64 at_, .int .u64 hold, .int .i64 nb, .int .i64 er, .bool true], .lst 5 1 (R.ints .u8 xs)]) := by
  refine Spec_of_xX (D := fun i => if i = 0 then (16, []) else (20, [])) (ks := [0, 1]) tok mixed (fn := f46) rfl rfl rfl (by kernel_rfl) (N := 59) rfl (rs := []) rfl (by show 2 ≤ 59; omega) fun A C ag L q hA hC hag hL hq => ?_
  rw [← hA]
  cbv
  rw [hL]
  refine loop_keep (fun k s => ∃ (a b : Nat) (at_ hold nb : Int), RF xs p a b at_ hold nb ∧ k = xs.length - a ∧ s = ⟨[(0, .ptr 0 0), (1, .int .i64 n)], [.box 70 [.lst 1 m, .int .i64 at_, .int .u64 hold, .int .i64 nb, .int .i64 er, .bool true], .lst 5 1 (A.ints .u8 xs)]⟩) [0, 1] _ ⟨a, b, at_, hold, nb, hF, rfl, rfl⟩ ?_
  rintro k _ ⟨a, b, at_, hold, nb, hF, hk, rfl⟩
  cbv
  refine ifB_intro (fun h => ?_) (fun h => ?_)
  · rw [h]
    cbv
    refine ifB_intro (fun h' => ?_) (fun h' => ?_)
    · rw [h']
      cbv
      have hlt : 0 + at_.toNat < xs.length ∧ A.inr at_ m ∧ at_.toNat = a := by
        obtain ⟨h1, -, -, h4, -⟩ := hF
        obtain ⟨-, hm, -⟩ := hx
        subst hA
        have h' : at_ < (m : Int) := of_decide_eq_true h'
        refine ⟨by omega, ⟨by omega, h'⟩, by omega⟩
      obtain ⟨y, hy, hy2⟩ := nthA_ex hA .u8 hlt.1
      refine ⟨hlt.2.1, bindO_some hy ?_⟩
      cbv
      refine ⟨?_, ?_⟩
      · subst hA
        show 0 ≤ nb
        have := hF.2.1; omega
      subst hA hag
      rw [hlt.2.2, Nat.zero_add] at hy2
      refine again_keep [0, 1] (xs.length - (a + 1)) ?_ ⟨a + 1, b + 8, _, _, _, ?_, rfl, rfl⟩
      · have := hlt.1; omega
      obtain ⟨h1, h2, h3, h4, h5, h6⟩ := hF
      obtain ⟨hb, hm, hl⟩ := hx
      have hlt' : a < xs.length := by omega
      have h : nb < n := of_decide_eq_true h
      have hyb := hb.get hlt'
      rw [← hy2] at hyb
      have hc0 := cut_nonneg (V_bnd hb).1 p b
      have hc1 := cut_lt (V xs) p b
      have hq : (2 : Int) ^ b ≤ 2 ^ 39 := by exact_mod_cast Nat.pow_le_pow_right (by decide) h5
      have hp := pow_pos2 b
      have hq39 : (2 : Int) ^ 39 = 549755813888 := by decide
      have hyp : y * 2 ^ b ≤ 255 * 549755813888 := Int.mul_le_mul (by omega) (by omega) (by omega) (by omega)
      refine ⟨?_, ?_, by omega, by omega, by omega, ?_⟩
      · show IntKind.i64.wrap (at_ + 1) = _
        rw [wrap64 (by omega)]; omega
      · show IntKind.i64.wrap (nb + 8) = _
        rw [wrap64 (by omega)]; omega
      · show bor .u64 hold (shlI .u64 (IntKind.u64.wrap y) nb) = _
        rw [wrapu64 (by omega), h2, shl64 (by omega) (by omega) (by omega), h6, or64 hc0 hc1 (by omega) (by omega), cut_succ hb hlt' h3, hy2, Int.mul_comm]
    · rw [h']
      cbv
      subst hA hq
      refine ⟨rfl, a, b, at_, hold, nb, hF, .inr ?_, rfl⟩
      have h' : ¬ at_ < (m : Int) := of_decide_eq_false h'
      obtain ⟨h1, h2, h3, h4, h5, h6⟩ := hF
      obtain ⟨-, hm, -⟩ := hx
      omega
  · rw [h]
    cbv
    subst hA hq
    have h : ¬ nb < n := of_decide_eq_false h
    exact ⟨rfl, a, b, at_, hold, nb, hF, .inl (by omega), rfl⟩
end Go.Sx

/- canon: how many words of each length. -/
set_option maxRecDepth 100000
set_option maxHeartbeats 4000000
set_option linter.unusedVariables false
set_option linter.unusedSimpArgs false
namespace Go.Sx
open Go.Proofs.Tryd

def cn : List Int → Nat → Int
  | [], _ => 0
  | a :: l, x => (if a = (x : Int) then 1 else 0) + cn l x
def cvec0 (l : List Int) : List Int := (List.range 17).map (cn l)
def cvec (l : List Int) : List Int := (List.range 17).map fun x => if x = 0 then 0 else cn l x
def okL (l : List Int) : Prop := l.length ≤ 4096 ∧ ∀ a ∈ l, 0 ≤ a ∧ a ≤ 16
theorem cn_app (a : Int) (x : Nat) : ∀ l, cn (l ++ [a]) x = cn l x + (if a = (x : Int) then 1 else 0)
  | [] => by simp [cn]
  | b :: l => by simp only [List.cons_append, cn, cn_app a x l]; omega
theorem cn_bnd (x : Nat) : ∀ l, 0 ≤ cn l x ∧ cn l x ≤ l.length
  | [] => by simp [cn]
  | b :: l => by
    have := cn_bnd x l
    simp only [cn, List.length_cons]
    split <;> omega

def CtQ (l : List Int) (i : Int) (j : Nat) (zs : List Int) : Prop := i = (j : Int) ∧ j ≤ l.length ∧ l.length ≤ 4096 ∧ (∀ a ∈ l.take j, 0 ≤ a ∧ a ≤ 16) ∧ zs = cvec0 (l.take j)

theorem s_counts (l : List Int) (ln : Nat) (hln : ln = l.length) : Spec prog 54 [.sl 0 0 ln false] [.vw (R.ints .i64 l)]
    (fun r H => ∃ (zs : List Int) (ok : Bool), (zs.length = 17 ∧ (ok = true → okL l ∧ zs = cvec l) ∧ (ok = false → ¬ okL l)) ∧ r = .tup [.agg (R.ints .i64 zs), .bool ok] ∧ H = [.vw (R.ints .i64 l), .box 97 (R.ints .i64 zs)]) := by
  refine Spec_of_kF (D := fun i => (0, [])) (ks := [0, 2, 3, 4, 6, 11, 12, 13]) tok mixed (fn := f54) rfl rfl rfl (by kernel_rfl) (N := 32) rfl (rs := [.cell 2 97, .tmp 3]) rfl (Nat.le_of_ble_eq_true rfl) fun A C Kp E ag L q hA hC hK hE hag hL hq => ?_
  rw [← hA]
  cbv
  refine ifB_intro (fun h => ?_) (fun h => ?_)
  · have hbig := h
    (try simp only [wA hA] at hbig)
    (try rw [h]); clear h
    cbv
    have hbad : ¬ okL l := by
      (try simp only [ncast] at *)
      intro h
      have := h.1
      omega
    obtain ⟨zs0, hz0⟩ : ∃ zs0 : List Int, zs0 = [0,0,0,0,0,0,0,0,0,0,0,0,0,0,0,0,0] := ⟨_, rfl⟩
    have hzl0 : zs0.length = 17 := by rw [hz0]; rfl
    have he : List.replicate 17 (SV.int .i64 0) = A.ints .i64 zs0 := by subst hA hz0; rfl
    simp only [List.replicate] at he
    rw [he]
    clear hz0
    (try simp only [ncast] at *)
    subst hA hq
    refine Fin_of ⟨[(2, .ptr 1 0), (3, .bool false)], [.vw (R.ints .i64 l), .box 97 (R.ints .i64 zs0)]⟩ ?_ (ldArr (A := R) (xs := zs0) rfl hzl0 ⟨zs0, false, ⟨hzl0, (fun h => by cases h), fun _ => hbad⟩, rfl, rfl⟩)
    exact Sb [0, 1]
  · have hsmall := h
    (try simp only [wA hA] at hsmall)
    (try rw [h]); clear h
    cbv
    rw [hL]
    refine ⟨fun kk s => ∃ (i : Int) (j : Nat) (zs : List Int), CtQ l i j zs ∧ kk = l.length - j ∧ s = ⟨[(2, .ptr 1 0), (3, .bool false), (4, .ptr 2 0), (11, .sl 0 0 ln false), (12, .int .i64 (A.nat ln)), (13, .int .i64 i)], [.vw (A.ints .i64 l), .box 97 (A.ints .i64 [0,0,0,0,0,0,0,0,0,0,0,0,0,0,0,0,0]), .box 97 (A.ints .i64 zs)]⟩,
      ⟨_, ⟨[(2, .ptr 1 0), (3, .bool false), (4, .ptr 2 0), (11, .sl 0 0 ln false), (12, .int .i64 (A.nat ln)), (13, .int .i64 0)], [.vw (A.ints .i64 l), .box 97 (A.ints .i64 [0,0,0,0,0,0,0,0,0,0,0,0,0,0,0,0,0]), .box 97 (A.ints .i64 [0,0,0,0,0,0,0,0,0,0,0,0,0,0,0,0,0])]⟩, ?_, 0, 0, _, ⟨rfl, by omega, ?_, by simp, rfl⟩, rfl, rfl⟩, ?_⟩
    · subst hA
      exact Sb [0, 1, 2]
    · (try simp only [ncast] at *)
      omega
    rintro kk _ ⟨i, j, zs, hQ, hkk, rfl⟩
    have hi := hQ.1
    have hj := hQ.2.1
    have hl4 := hQ.2.2.1
    have hin := hQ.2.2.2.1
    have hzs := hQ.2.2.2.2
    have hzl : zs.length = 17 := by rw [hzs]; simp [cvec0]
    cbv
    refine ifB_intro (fun h => ?_) (fun h => ?_)
    · have hlt := h
      (try simp only [wA hA] at hlt)
      (try rw [h]); clear h
      cbv
      (try simp only [ncast] at *)
      refine rdA hA (by (first | omega | (try simp only [wA hA, wB hA, Go.IntKind.wrap_i64] at *) <;> omega | (try simp only [decide_eq_true_eq, decide_eq_false_iff_not, beq_iff_eq, beq_eq_false_iff_ne, bne_iff_ne, bne_eq_false_iff_eq, Bool.not_eq_true', Bool.not_eq_false', ncast, Int.not_lt, Int.not_le, ne_eq, not_true_eq_false, not_false_eq_true, false_or, true_and, Go.IntKind.wrap_i64] at *) <;> omega)) (by (first | omega | (try simp only [wA hA, wB hA, Go.IntKind.wrap_i64] at *) <;> omega | (try simp only [decide_eq_true_eq, decide_eq_false_iff_not, beq_iff_eq, beq_eq_false_iff_ne, bne_iff_ne, bne_eq_false_iff_eq, Bool.not_eq_true', Bool.not_eq_false', ncast, Int.not_lt, Int.not_le, ne_eq, not_true_eq_false, not_false_eq_true, false_or, true_and, Go.IntKind.wrap_i64] at *) <;> omega)) fun x hx => ?_
      cbv
      (try simp only [ncast] at *)
      have hji : 0 + i.toNat = j := by omega
      rw [hji] at hx
      have hjl : j < l.length := by omega
      have hmem : x ∈ l := by rw [hx]; simp [List.getD, hjl]
      have htk : l.take (j + 1) = l.take j ++ [x] := by
        rw [List.take_add_one, hx]
        simp [List.getD, hjl]
      refine ifB_intro (fun h => ?_) (fun h => ?_)
      · have hneg := h
        (try simp only [wA hA] at hneg)
        (try rw [h]); clear h
        cbv
        (try simp only [ncast] at *)
        have hbad : ¬ okL l := fun h => by have := h.2 x hmem; omega
        refine ldArr hA hzl ?_
        cbv
        refine stArr hA hzl ?_ ?_ ?_
        · exact lenA2 hA hzl
        · first | rfl | (rw [A_ints_len hA]; first | rfl | assumption)
        cbv
        (try simp only [ncast] at *)
        subst hA hq
        refine Fin_of ⟨[(2, .ptr 1 0), (3, .bool false)], [.vw (R.ints .i64 l), .box 97 (R.ints .i64 zs)]⟩ ?_ (ldArr (A := R) (xs := zs) rfl hzl ⟨zs, false, ⟨hzl, (fun h => by cases h), fun _ => hbad⟩, rfl, rfl⟩)
        exact Sb [0, 1]
      · have hneg := h
        (try simp only [wA hA] at hneg)
        (try rw [h]); clear h
        cbv
        refine ifB_intro (fun h => ?_) (fun h => ?_)
        · have hhi := h
          (try simp only [wA hA] at hhi)
          (try rw [h]); clear h
          cbv
          (try simp only [ncast] at *)
          have hbad : ¬ okL l := fun h => by have := h.2 x hmem; omega
          refine ldArr hA hzl ?_
          cbv
          refine stArr hA hzl ?_ ?_ ?_
          · exact lenA2 hA hzl
          · first | rfl | (rw [A_ints_len hA]; first | rfl | assumption)
          cbv
          (try simp only [ncast] at *)
          subst hA hq
          refine Fin_of ⟨[(2, .ptr 1 0), (3, .bool false)], [.vw (R.ints .i64 l), .box 97 (R.ints .i64 zs)]⟩ ?_ (ldArr (A := R) (xs := zs) rfl hzl ⟨zs, false, ⟨hzl, (fun h => by cases h), fun _ => hbad⟩, rfl, rfl⟩)
          exact Sb [0, 1]
        · have hhi := h
          (try simp only [wA hA] at hhi)
          (try rw [h]); clear h
          cbv
          (try simp only [ncast] at *)
          refine rdA hA (by (first | omega | (try simp only [wA hA, wB hA, Go.IntKind.wrap_i64] at *) <;> omega | (try simp only [decide_eq_true_eq, decide_eq_false_iff_not, beq_iff_eq, beq_eq_false_iff_ne, bne_iff_ne, bne_eq_false_iff_eq, Bool.not_eq_true', Bool.not_eq_false', ncast, Int.not_lt, Int.not_le, ne_eq, not_true_eq_false, not_false_eq_true, false_or, true_and, Go.IntKind.wrap_i64] at *) <;> omega)) (by (first | omega | (try simp only [wA hA, wB hA, Go.IntKind.wrap_i64] at *) <;> omega | (try simp only [decide_eq_true_eq, decide_eq_false_iff_not, beq_iff_eq, beq_eq_false_iff_ne, bne_iff_ne, bne_eq_false_iff_eq, Bool.not_eq_true', Bool.not_eq_false', ncast, Int.not_lt, Int.not_le, ne_eq, not_true_eq_false, not_false_eq_true, false_or, true_and, Go.IntKind.wrap_i64] at *) <;> omega)) fun v hv => ?_
          cbv
          (try simp only [ncast] at *)
          have hev : A.bin .add .i64 v 1 = v + 1 := by
            have hxn : 0 + x.toNat = x.toNat := Nat.zero_add _
            have hv2 : v = cn (l.take j) x.toNat := by
              rw [hv, hzs, hxn]
              simp [cvec0, List.getD]
              rw [List.getElem?_range (by omega)]
              rfl
            have := cn_bnd x.toNat (l.take j)
            have hlt2 : (l.take j).length ≤ 4096 := by simp; omega
            rw [addA hA, wrap64 (by omega)]
          simp only [hev]
          refine wrA hA (by (first | omega | (try simp only [wA hA, wB hA, Go.IntKind.wrap_i64] at *) <;> omega | (try simp only [decide_eq_true_eq, decide_eq_false_iff_not, beq_iff_eq, beq_eq_false_iff_ne, bne_iff_ne, bne_eq_false_iff_eq, Bool.not_eq_true', Bool.not_eq_false', ncast, Int.not_lt, Int.not_le, ne_eq, not_true_eq_false, not_false_eq_true, false_or, true_and, Go.IntKind.wrap_i64] at *) <;> omega)) (by (first | omega | (try simp only [wA hA, wB hA, Go.IntKind.wrap_i64] at *) <;> omega | (try simp only [decide_eq_true_eq, decide_eq_false_iff_not, beq_iff_eq, beq_eq_false_iff_ne, bne_iff_ne, bne_eq_false_iff_eq, Bool.not_eq_true', Bool.not_eq_false', ncast, Int.not_lt, Int.not_le, ne_eq, not_true_eq_false, not_false_eq_true, false_or, true_and, Go.IntKind.wrap_i64] at *) <;> omega)) fun ys hys => ?_
          cbv
          (try simp only [ncast] at *)
          have hys2 : ys = cvec0 (l.take (j + 1)) := by
            rw [hys, hv, hzs, htk]
            refine List.ext_getElem? fun q => ?_
            simp only [cvec0, Nat.zero_add, List.getElem?_set, List.getElem?_map, List.length_map, List.length_range]
            by_cases hq : x.toNat = q
            · subst hq
              rw [if_pos rfl, if_pos (by omega), List.getElem?_range (by omega), List.getD, List.getElem?_map, List.getElem?_range (by omega)]
              simp only [Option.map_some, Option.getD_some, cn_app]
              rw [if_pos (by omega)]
            · rw [if_neg hq]
              rcases Nat.lt_or_ge q 17 with h17 | h17
              · rw [List.getElem?_range h17]
                simp only [Option.map_some, cn_app]
                rw [if_neg (by omega)]
                simp
              · rw [List.getElem?_eq_none (by simp; omega)]
                rfl
          simp only [addA hA]
          have e : IntKind.i64.wrap (i + 1) = i + 1 := wrap64 (by omega)
          subst hag
          refine ⟨l.length - (j + 1), ⟨[(2, .ptr 1 0), (3, .bool false), (4, .ptr 2 0), (11, .sl 0 0 ln false), (12, .int .i64 (A.nat ln)), (13, .int .i64 (IntKind.i64.wrap (i + 1)))], [.vw (A.ints .i64 l), .box 97 (A.ints .i64 [0,0,0,0,0,0,0,0,0,0,0,0,0,0,0,0,0]), .box 97 (A.ints .i64 ys)]⟩, by omega, ?_,
            IntKind.i64.wrap (i + 1), j + 1, ys, ⟨by omega, by omega, by omega, ?_, hys2⟩, rfl, rfl⟩
          · subst hA
            exact Sb [0, 1, 2]
          · rw [htk]
            intro a ha
            rcases List.mem_append.1 ha with ha | ha
            · exact hin a ha
            · have : a = x := by simpa using ha
              omega
    · have hge := h
      (try simp only [wA hA] at hge)
      (try rw [h]); clear h
      cbv
      (try simp only [ncast] at *)
      have hjl : j = l.length := by omega
      rw [hjl, List.take_length] at hin hzs
      refine wrA hA (by (first | omega | (try simp only [wA hA, wB hA, Go.IntKind.wrap_i64] at *) <;> omega | (try simp only [decide_eq_true_eq, decide_eq_false_iff_not, beq_iff_eq, beq_eq_false_iff_ne, bne_iff_ne, bne_eq_false_iff_eq, Bool.not_eq_true', Bool.not_eq_false', ncast, Int.not_lt, Int.not_le, ne_eq, not_true_eq_false, not_false_eq_true, false_or, true_and, Go.IntKind.wrap_i64] at *) <;> omega)) (by (first | omega | (try simp only [wA hA, wB hA, Go.IntKind.wrap_i64] at *) <;> omega | (try simp only [decide_eq_true_eq, decide_eq_false_iff_not, beq_iff_eq, beq_eq_false_iff_ne, bne_iff_ne, bne_eq_false_iff_eq, Bool.not_eq_true', Bool.not_eq_false', ncast, Int.not_lt, Int.not_le, ne_eq, not_true_eq_false, not_false_eq_true, false_or, true_and, Go.IntKind.wrap_i64] at *) <;> omega)) fun ys hys => ?_
      cbv
      have hyl : ys.length = 17 := by rw [hys, List.length_set]; exact hzl
      refine ldArr hA hyl ?_
      cbv
      refine stArr hA hyl ?_ ?_ ?_
      · exact lenA2 hA hyl
      · first | rfl | (rw [A_ints_len hA]; first | rfl | assumption)
      cbv
      have hyc : ys = cvec l := by
        rw [hys, hzs]
        refine List.ext_getElem? fun q => ?_
        simp only [cvec0, cvec, List.getElem?_set, List.getElem?_map, List.length_map, List.length_range]
        rcases Nat.eq_zero_or_pos q with h0 | h0
        · subst h0; rfl
        · rw [if_neg (by simp; omega)]
          rcases Nat.lt_or_ge q 17 with h17 | h17
          · rw [List.getElem?_range h17]
            simp only [Option.map_some]
            rw [if_neg (by omega)]
          · rw [List.getElem?_eq_none (by simp; omega)]
            rfl
      have hok : okL l := ⟨hl4, hin⟩
      (try simp only [ncast] at *)
      subst hA hq
      refine Fin_of ⟨[(2, .ptr 1 0), (3, .bool true)], [.vw (R.ints .i64 l), .box 97 (R.ints .i64 ys)]⟩ ?_ (ldArr (A := R) (xs := ys) rfl hyl ⟨ys, true, ⟨hyl, fun _ => ⟨hok, hyc⟩, fun h => by cases h⟩, rfl, rfl⟩)
      exact Sb [0, 1]
end Go.Sx

/- canon: what lengths are. -/
set_option maxRecDepth 100000
set_option maxHeartbeats 4000000
set_option linter.unusedVariables false
set_option linter.unusedSimpArgs false
namespace Go.Sx
open Go.Proofs.Tryd

section
variable {A : Ar} {C : CallT} {s : St} {κ : List Nat → SV → List Ck → Prop}
theorem call_counts (hC : C = CallX prog) (hA : A = R) {l : List Int} {hb ln : Nat} (hln : ln = l.length) (h4 : cellsAt s.H hb 0 ln = some (A.ints .i64 l))
    (hk : ∀ (zs : List Int) (ok : Bool), zs.length = 17 → (ok = true → okL l ∧ zs = cvec l) → (ok = false → ¬ okL l) → κ [] (.tup [.agg (A.ints .i64 zs), .bool ok]) (apd s.H [.box 97 (A.ints .i64 zs)])) : C 54 [.sl hb 0 ln false] s κ := by
  have hS := s_counts l ln hln
  rw [← hA] at hS
  refine cal_of hC hS [(hb, 0, false)] ⟨by simp, trivial⟩ ⟨hLtsA hA .., zOksA hA .., ?_, trivial⟩ ⟨⟨(show 0 < 1 by omega), rfl, rfl, rfl⟩, trivial⟩ ?_
  · rw [renA hA, A_ints_len hA, ← hln]; exact h4
  rintro _ _ ⟨zs, ok, ⟨h1, h2, h3⟩, rfl, rfl⟩
  refine ⟨_, .tup [.agg (A.ints .i64 zs), .bool ok], s.H ++ [.box 97 (A.ints .i64 zs)], rfl, ?_, ?_, ?_⟩
  · simp only [renV, renX, renC, List.map_cons, List.map_nil, renA hA]
  · simp only [backH, renCk, List.map_cons, List.map_nil, renA hA, setAll]
    rfl
  · have := hk zs ok h1 h2 h3
    rw [apd_eq] at this
    exact this
end

theorem shl64i {a : Int} {n : Nat} (hn : n ≤ 62) (h0 : 0 ≤ a) (h1 : a * 2 ^ n < 9223372036854775808) : shlI .i64 a n = a * 2 ^ n := by
  unfold shlI
  rw [show min (n : Int).toNat IntKind.i64.bits = n by show min n 64 = n; omega]
  exact wrap64 ⟨by have := Int.mul_nonneg h0 (Int.le_of_lt (pow_pos2 n)); omega, by omega⟩

def wg (zs : List Int) : Nat → Int
  | 0 => 0
  | j + 1 => wg zs j + zs.getD j 0 * 2 ^ (16 - j)
def ChkQ (l : List Int) (y : Int) : Prop := (¬ okL l ∧ y = 5) ∨ (okL l ∧ ((wg (cvec l) 17 = 0 ∧ y = 4) ∨ (wg (cvec l) 17 ≠ 0 ∧ 65536 < wg (cvec l) 17 ∧ y = 2) ∨ (wg (cvec l) 17 ≠ 0 ∧ wg (cvec l) 17 < 65536 ∧ y = 3) ∨ (wg (cvec l) 17 = 65536 ∧ y = 1)))
def CkQ (zs : List Int) (i : Int) (j : Nat) (w : Int) : Prop := i = (j : Int) ∧ j ≤ 17 ∧ w = wg zs j

theorem cvec_bnd {l : List Int} (h : l.length ≤ 4096) (q : Nat) : 0 ≤ (cvec l).getD q 0 ∧ (cvec l).getD q 0 ≤ 4096 := by
  unfold cvec
  simp only [List.getD, List.getElem?_map]
  rcases Nat.lt_or_ge q 17 with h17 | h17
  · rw [List.getElem?_range h17]
    simp only [Option.map_some, Option.getD_some]
    split
    · omega
    · have := cn_bnd q l; omega
  · rw [List.getElem?_eq_none (by simpa using h17)]
    simp
theorem wg_bnd {zs : List Int} (h : ∀ q, 0 ≤ zs.getD q 0 ∧ zs.getD q 0 ≤ 4096) : ∀ j, 0 ≤ wg zs j ∧ wg zs j ≤ 4096 * 65536 * j
  | 0 => by simp [wg]
  | j + 1 => by
    have ih := wg_bnd h j
    have hj := h j
    have hp : (1 : Int) ≤ 2 ^ (16 - j) ∧ (2 : Int) ^ (16 - j) ≤ 65536 := by
      have h1 : (2 : Nat) ^ (16 - j) ≤ 65536 := Nat.le_trans (Nat.pow_le_pow_right (by decide) (show 16 - j ≤ 16 by omega)) (by decide)
      have h2 : 0 < (2 : Nat) ^ (16 - j) := Nat.pow_pos (by decide)
      have e : ((2 ^ (16 - j) : Nat) : Int) = (2 : Int) ^ (16 - j) := Int.natCast_pow 2 (16 - j)
      rw [← e]
      exact ⟨Int.ofNat_le.2 h2, Int.ofNat_le.2 h1⟩
    have h3 : 0 ≤ zs.getD j 0 * 2 ^ (16 - j) := Int.mul_nonneg hj.1 (by omega)
    have h4 : zs.getD j 0 * 2 ^ (16 - j) ≤ 4096 * 65536 := by
      refine Int.le_trans (Int.mul_le_mul_of_nonneg_right hj.2 (by omega)) ?_
      exact Int.mul_le_mul_of_nonneg_left hp.2 (by decide)
    have e : wg zs (j + 1) = wg zs j + zs.getD j 0 * 2 ^ (16 - j) := rfl
    rw [e]
    have e2 : ((j + 1 : Nat) : Int) = (j : Int) + 1 := by omega
    rw [e2, Int.mul_add]
    omega

theorem s_check (l : List Int) (ln : Nat) (hln : ln = l.length) : Spec prog 48 [.sl 0 0 ln false] [.vw (R.ints .i64 l)] (fun r H => ∃ y, ChkQ l y ∧ r = .int .i64 y ∧ H = [.vw (R.ints .i64 l)]) := by
  refine Spec_of_kF (D := fun i => (0, [])) (ks := [0, 2, 3, 4, 5, 6, 7, 15, 16]) tok mixed (fn := f48) rfl rfl rfl (by kernel_rfl) (N := 36) rfl (rs := [.tmp 2]) rfl (Nat.le_of_ble_eq_true rfl) fun A C Kp E ag L q hA hC hK hE hag hL hq => ?_
  rw [← hA]
  cbv
  refine call_counts hC hA hln (by rw [cellsAt_eq rfl (by show 0 + ln ≤ (A.ints .i64 l).length; rw [A_ints_len hA]; omega)]; show some ((List.drop 0 (A.ints .i64 l)).take ln) = _; rw [List.drop_zero, hln, ← A_ints_len hA .i64 l, List.take_length]) fun zs ok h17 hok hno => ?_
  cbv
  refine stArrE hA ?_ ?_ ?_
  · exact lenA2 hA h17
  · have key := setAllA hA (k := .i64) h17 (cs := [.int .i64 0, .int .i64 0, .int .i64 0, .int .i64 0, .int .i64 0, .int .i64 0, .int .i64 0, .int .i64 0, .int .i64 0, .int .i64 0, .int .i64 0, .int .i64 0, .int .i64 0, .int .i64 0, .int .i64 0, .int .i64 0, .int .i64 0]) rfl
    cbv at key
    exact key
  cbv
  cases ok
  · have hno := hno rfl
    refine ifT (by simp only [notA hA]; rfl) fun h => ?_
    (try rw [h]); clear h
    cbv
    subst hA hq
    refine Fin_of ⟨[(2, .int .i64 5)], [.vw (R.ints .i64 l)]⟩ ?_ ⟨5, .inl ⟨hno, rfl⟩, rfl, rfl⟩
    exact Sb [0]
  · obtain ⟨hokk, hzs⟩ := hok rfl
    clear hok
    clear hno
    have hcb : ∀ q, 0 ≤ zs.getD q 0 ∧ zs.getD q 0 ≤ 4096 := fun q => by rw [hzs]; exact cvec_bnd hokk.1 q
    refine ifF (by simp only [notA hA]; rfl) fun h => ?_
    (try rw [h]); clear h
    cbv
    refine ldArr hA h17 ?_
    cbv
    rw [hL]
    refine ⟨fun kk s => ∃ (i : Int) (j : Nat) (w : Int), CkQ zs i j w ∧ kk = 17 - j ∧ s = ⟨[(5, .int .i64 w), (15, .agg (A.ints .i64 zs)), (16, .int .i64 i)], [.vw (A.ints .i64 l)]⟩,
      ⟨_, ⟨[(5, .int .i64 0), (15, .agg (A.ints .i64 zs)), (16, .int .i64 0)], [.vw (A.ints .i64 l)]⟩, ?_, 0, 0, 0, ⟨rfl, by omega, rfl⟩, rfl, rfl⟩, ?_⟩
    · subst hA
      exact Sd [0] (by repeat' (first | exact trivial | exact fun _ => rfl | exact fun h => absurd h (by simp) | exact subC_ints rfl | refine And.intro ?_ ?_ | rfl | (simp [subH_nil, hLts, hLt, renCk, renC, sg, Ck.cells, R_ints_ren, R_ints_hLts]; done))) (by repeat' (first | exact trivial | exact .inr ⟨trivial, rfl⟩ | exact .inr (agg_keep rfl) | exact .inr ⟨by simp [vOk, hLt, hLts], rfl⟩ | refine And.intro ?_ ?_))
    rintro kk _ ⟨i, j, w, hQ, hkk, rfl⟩
    have hi := hQ.1
    have hj := hQ.2.1
    have hw := hQ.2.2
    cbv
    have hwb := wg_bnd hcb j
    rw [← hw] at hwb
    refine ifB_intro (fun h => ?_) (fun h => ?_)
    · have hlt := h
      (try simp only [wA hA] at hlt)
      (try rw [h]); clear h
      cbv
      (try simp only [ncast] at *)
      refine hk_arr hA hK _ 3 17 _ _ .i64 .i64 zs i rfl (by kernel_rfl) (by kernel_rfl) (by kernel_rfl) (by kernel_rfl) rfl rfl h17 ⟨by omega, by omega⟩ fun k hk => ?_
      have hji : i.toNat = j := by omega
      rw [hji] at hk
      cbv
      (try simp only [ncast] at *)
      have hsub : A.bin .sub .i64 16 i = ((16 - j : Nat) : Int) := by rw [subA' hA, wrap64 (by omega)]; omega
      have hkb := hcb j
      rw [← hk] at hkb
      have hp : (2 : Int) ^ (16 - j) ≤ 65536 ∧ 0 < (2 : Int) ^ (16 - j) := by
        have h1 : (2 : Nat) ^ (16 - j) ≤ 65536 := Nat.le_trans (Nat.pow_le_pow_right (by decide) (show 16 - j ≤ 16 by omega)) (by decide)
        have h2 : 0 < (2 : Nat) ^ (16 - j) := Nat.pow_pos (by decide)
        have e : ((2 ^ (16 - j) : Nat) : Int) = (2 : Int) ^ (16 - j) := Int.natCast_pow 2 (16 - j)
        rw [← e]
        exact ⟨Int.ofNat_le.2 h1, Int.ofNat_lt.2 h2⟩
      have hm : 0 ≤ k * 2 ^ (16 - j) ∧ k * 2 ^ (16 - j) ≤ 4096 * 65536 :=
        ⟨Int.mul_nonneg hkb.1 (by omega), Int.le_trans (Int.mul_le_mul_of_nonneg_right hkb.2 (by omega)) (Int.mul_le_mul_of_nonneg_left hp.1 (by decide))⟩
      have hshl : A.bin .shl .i64 k (A.bin .sub .i64 16 i) = k * 2 ^ (16 - j) := by rw [hsub, shlA hA, shl64i (by omega) hkb.1 (by omega)]
      have hadd : A.bin .add .i64 w (k * 2 ^ (16 - j)) = wg zs (j + 1) := by
        rw [addA hA, wrap64 (by omega), hw, hk]
        rfl
      refine ⟨by simp only [hsub, ge0A hA]; omega, ?_⟩
      obtain ⟨w2, hw2⟩ : ∃ w2, w2 = wg zs (j + 1) := ⟨_, rfl⟩
      simp only [hshl, hadd, ← hw2]
      simp only [addA hA]
      have e : IntKind.i64.wrap (i + 1) = i + 1 := wrap64 (by omega)
      subst hag
      refine ⟨17 - (j + 1), ⟨[(5, .int .i64 w2), (15, .agg (A.ints .i64 zs)), (16, .int .i64 (IntKind.i64.wrap (i + 1)))], [.vw (A.ints .i64 l)]⟩, by omega, ?_, IntKind.i64.wrap (i + 1), j + 1, w2, ⟨by omega, by omega, hw2⟩, rfl, rfl⟩
      subst hA
      exact Sd [0] (by repeat' (first | exact trivial | exact fun _ => rfl | exact fun h => absurd h (by simp) | exact subC_ints rfl | refine And.intro ?_ ?_ | rfl | (simp [subH_nil, hLts, hLt, renCk, renC, sg, Ck.cells, R_ints_ren, R_ints_hLts]; done))) (by repeat' (first | exact trivial | exact .inr ⟨trivial, rfl⟩ | exact .inr (agg_keep rfl) | exact .inr ⟨by simp [vOk, hLt, hLts], rfl⟩ | refine And.intro ?_ ?_))
    · have hge := h
      (try simp only [wA hA] at hge)
      (try rw [h]); clear h
      cbv
      (try simp only [ncast] at *)
      have hj17 : j = 17 := by omega
      rw [hj17, hzs] at hw
      refine ifB_intro (fun h => ?_) (fun h => ?_)
      · have h0 := h
        (try simp only [wA hA] at h0)
        (try rw [h]); clear h
        cbv
        (try simp only [ncast] at *)
        rw [hw] at h0
        have hy : ChkQ l 4 := .inr ⟨hokk, .inl ⟨h0, rfl⟩⟩
        subst hA hq
        refine Fin_of ⟨[(2, .int .i64 4)], [.vw (R.ints .i64 l)]⟩ ?_ ⟨4, hy, rfl, rfl⟩
        exact Sb [0]
      · have h0 := h
        (try simp only [wA hA] at h0)
        (try rw [h]); clear h
        cbv
        (try simp only [ncast] at *)
        rw [hw] at h0
        refine ifB_intro (fun h => ?_) (fun h => ?_)
        · have h1 := h
          (try simp only [wA hA] at h1)
          (try rw [h]); clear h
          cbv
          (try simp only [ncast] at *)
          rw [hw] at h1
          have hy : ChkQ l 2 := .inr ⟨hokk, .inr (.inl ⟨h0, h1, rfl⟩)⟩
          subst hA hq
          refine Fin_of ⟨[(2, .int .i64 2)], [.vw (R.ints .i64 l)]⟩ ?_ ⟨2, hy, rfl, rfl⟩
          exact Sb [0]
        · have h1 := h
          (try simp only [wA hA] at h1)
          (try rw [h]); clear h
          cbv
          (try simp only [ncast] at *)
          rw [hw] at h1
          refine ifB_intro (fun h => ?_) (fun h => ?_)
          · have h2 := h
            (try simp only [wA hA] at h2)
            (try rw [h]); clear h
            cbv
            (try simp only [ncast] at *)
            rw [hw] at h2
            have hy : ChkQ l 3 := .inr ⟨hokk, .inr (.inr (.inl ⟨h0, h2, rfl⟩))⟩
            subst hA hq
            refine Fin_of ⟨[(2, .int .i64 3)], [.vw (R.ints .i64 l)]⟩ ?_ ⟨3, hy, rfl, rfl⟩
            exact Sb [0]
          · have h2 := h
            (try simp only [wA hA] at h2)
            (try rw [h]); clear h
            cbv
            (try simp only [ncast] at *)
            rw [hw] at h2
            have h3 : wg (cvec l) 17 = 65536 := by omega
            have hy : ChkQ l 1 := .inr ⟨hokk, .inr (.inr (.inr ⟨h3, rfl⟩))⟩
            subst hA hq
            refine Fin_of ⟨[(2, .int .i64 1)], [.vw (R.ints .i64 l)]⟩ ?_ ⟨1, hy, rfl, rfl⟩
            exact Sb [0]
end Go.Sx

/- canon: the first word of each length; why lengths have no words. -/
set_option maxRecDepth 100000
set_option maxHeartbeats 4000000
set_option linter.unusedVariables false
set_option linter.unusedSimpArgs false
namespace Go.Sx
open Go.Proofs.Tryd

section
variable {A : Ar} {C : CallT} {s : St} {κ : List Nat → SV → List Ck → Prop}
theorem call_check (hC : C = CallX prog) (hA : A = R) {l : List Int} {hb ln : Nat} (hln : ln = l.length) (h4 : cellsAt s.H hb 0 ln = some (A.ints .i64 l)) {av : List SV} (hav : argsOk 1 (linkOf s.H.length [(hb, 0, false)]) [.sl 0 0 ln false] av)
    (hk : ∀ y, ChkQ l y → κ [] (.int .i64 y) s.H) : C 48 av s κ := by
  have hS := s_check l ln hln
  rw [← hA] at hS
  refine cal_of hC hS [(hb, 0, false)] ⟨by simp, trivial⟩ ⟨hLtsA hA .., zOksA hA .., ?_, trivial⟩ hav ?_
  · rw [renA hA, A_ints_len hA, ← hln]; exact h4
  rintro _ _ ⟨y, h1, rfl, rfl⟩
  refine ⟨_, _, s.H, rfl, rfl, ?_, hk y h1⟩
  simp [backH, setAll]
end
theorem cells_vwA {A : Ar} (hA : A = R) {H : List Ck} {hb ln : Nat} {k : IntKind} {l : List Int} (h4 : H[hb]? = some (.vw (A.ints k l))) (hln : ln = l.length) : cellsAt H hb 0 ln = some (A.ints k l) := by
  rw [cellsAt_eq h4 (by show 0 + ln ≤ (A.ints k l).length; rw [A_ints_len hA]; omega)]
  show some ((List.drop 0 (A.ints k l)).take ln) = _
  rw [List.drop_zero, hln, ← A_ints_len hA k l, List.take_length]

def WrQ (l : List Int) (e : Int) : Prop := (¬ okL l ∧ e = 2) ∨ (okL l ∧ 65536 < wg (cvec l) 17 ∧ e = 6) ∨ (okL l ∧ wg (cvec l) 17 ≤ 65536 ∧ e = 0)
theorem s_wrong (l : List Int) (ln : Nat) (hln : ln = l.length) : Spec prog 53 [.sl 0 0 ln false] [.vw (R.ints .i64 l)] (fun r H => ∃ y, WrQ l y ∧ r = .int .i64 y ∧ H = [.vw (R.ints .i64 l)]) := by
  refine Spec_of_kX (D := fun i => (0, [])) (ks := [0, 2, 4]) tok mixed (fn := f53) rfl rfl rfl (by kernel_rfl) (N := 9) rfl (rs := [.tmp 2]) rfl (Nat.le_of_ble_eq_true rfl) fun A C Kp E ag L q hA hC hK hE hag hL hq => ?_
  rw [← hA]
  cbv
  refine call_check hC hA hln (cells_vwA hA rfl hln) ⟨⟨(show 0 < 1 by omega), rfl, rfl, rfl⟩, trivial⟩ fun y hy => ?_
  cbv
  refine ifB_intro (fun h => ?_) (fun h => ?_)
  · have h5 := h
    (try simp only [wA hA] at h5)
    (try rw [h]); clear h
    cbv
    (try simp only [ncast] at *)
    rw [hA] 
    subst hq
    refine ⟨2, .inl ⟨?_, rfl⟩, rfl, rfl⟩
    rcases hy with h | ⟨_, ⟨_, h⟩ | ⟨_, _, h⟩ | ⟨_, _, h⟩ | ⟨_, h⟩⟩
    · exact h.1
    all_goals omega
  · have h5 := h
    (try simp only [wA hA] at h5)
    (try rw [h]); clear h
    cbv
    (try simp only [ncast] at *)
    refine ifB_intro (fun h => ?_) (fun h => ?_)
    · have h2 := h
      (try simp only [wA hA] at h2)
      (try rw [h]); clear h
      cbv
      (try simp only [ncast] at *)
      rw [hA]
      subst hq
      refine ⟨6, .inr (.inl ?_), rfl, rfl⟩
      rcases hy with h | ⟨h0, ⟨_, h⟩ | ⟨_, h1, h⟩ | ⟨_, _, h⟩ | ⟨_, h⟩⟩
      · omega
      · omega
      · exact ⟨h0, h1, rfl⟩
      · omega
      · omega
    · have h2 := h
      (try simp only [wA hA] at h2)
      (try rw [h]); clear h
      cbv
      (try simp only [ncast] at *)
      rw [hA]
      subst hq
      refine ⟨0, .inr (.inr ?_), rfl, rfl⟩
      rcases hy with h | ⟨h0, ⟨h1, h⟩ | ⟨_, h1, h⟩ | ⟨_, h1, h⟩ | ⟨h1, h⟩⟩
      · omega
      · exact ⟨h0, by omega, rfl⟩
      · omega
      · exact ⟨h0, by omega, rfl⟩
      · exact ⟨h0, by omega, rfl⟩

def fst1 (zs : List Int) : Nat → Int
  | 0 => 0
  | i + 1 => 2 * (fst1 zs i + zs.getD i 0)
def fvec (zs : List Int) : List Int := (List.range 17).map (fst1 zs)
theorem fst1_bnd {zs : List Int} (h : ∀ q, 0 ≤ zs.getD q 0 ∧ zs.getD q 0 ≤ 4096) : ∀ i, 0 ≤ fst1 zs i ∧ fst1 zs i ≤ 8192 * (2 ^ i - 1)
  | 0 => by simp [fst1]
  | i + 1 => by
    have := fst1_bnd h i
    have hi := h i
    have hp : (2 : Int) ^ (i + 1) = 2 * 2 ^ i := by rw [Int.pow_succ, Int.mul_comm]
    simp only [fst1, hp]
    omega
def FsQ (zs : List Int) (i : Int) (j : Nat) (fs : List Int) : Prop := i = (j : Int) ∧ 1 ≤ j ∧ j ≤ 17 ∧ fs.length = 17 ∧ ∀ q, q < j → fs.getD q 0 = fst1 zs q

theorem s_firsts (zs : List Int) (h17 : zs.length = 17) (hb : ∀ q, 0 ≤ zs.getD q 0 ∧ zs.getD q 0 ≤ 4096) : Spec prog 55 [.agg (R.ints .i64 zs)] []
    (fun r H => r = .agg (R.ints .i64 (fvec zs)) ∧ H = [.box 97 (R.ints .i64 (fvec zs))]) := by
  refine Spec_of_kF (D := fun i => if i = 5 then (11, []) else (0, [])) (ks := [0, 1, 2, 3, 4]) tok mixed (fn := f55) rfl rfl rfl (by kernel_rfl) (N := 22) rfl (rs := [.cell 2 97]) rfl (Nat.le_of_ble_eq_true rfl) fun A C Kp E ag L q hA hC hK hE hag hL hq => ?_
  rw [← hA]
  cbv
  rw [hL]
  refine ⟨fun kk s => ∃ (i : Int) (j : Nat) (fs : List Int), FsQ zs i j fs ∧ kk = 17 - j ∧ s = ⟨[(1, .ptr 0 0), (2, .ptr 1 0), (3, .ptr 2 0), (4, .int .i64 i)], [.box 97 (A.ints .i64 zs), .box 97 (A.ints .i64 [0,0,0,0,0,0,0,0,0,0,0,0,0,0,0,0,0]), .box 97 (A.ints .i64 fs)]⟩,
    ⟨_, ⟨[(1, .ptr 0 0), (2, .ptr 1 0), (3, .ptr 2 0), (4, .int .i64 1)], [.box 97 (A.ints .i64 zs), .box 97 (A.ints .i64 [0,0,0,0,0,0,0,0,0,0,0,0,0,0,0,0,0]), .box 97 (A.ints .i64 [0,0,0,0,0,0,0,0,0,0,0,0,0,0,0,0,0])]⟩, ?_, 1, 1, _, ⟨rfl, by omega, by omega, rfl, fun q hq => by rw [show q = 0 by omega]; rfl⟩, rfl, rfl⟩, ?_⟩
  · subst hA
    exact Sb [0, 1, 2]
  rintro kk _ ⟨i, j, fs, hQ, hkk, rfl⟩
  have hi := hQ.1
  have hj1 := hQ.2.1
  have hj := hQ.2.2.1
  have hfl := hQ.2.2.2.1
  have hfs := hQ.2.2.2.2
  cbv
  refine ifB_intro (fun h => ?_) (fun h => ?_)
  · have hle := h
    (try simp only [wA hA] at hle)
    (try rw [h]); clear h
    cbv
    (try simp only [ncast] at *)
    have hsub : A.bin .sub .i64 i 1 = ((j - 1 : Nat) : Int) := by rw [subA' hA, wrap64 (by omega)]; omega
    obtain ⟨p, hp⟩ : ∃ p : Int, p = ((j - 1 : Nat) : Int) := ⟨_, rfl⟩
    rw [← hp] at hsub
    simp only [hsub]
    have hpt : 0 ≤ p ∧ p < 17 ∧ 0 + p.toNat = j - 1 ∧ 0 + i.toNat = j ∧ 0 ≤ i ∧ i < 17 := by omega
    clear hp
    refine rdA hA ⟨hpt.1, hpt.2.1⟩ (by rw [hpt.2.2.1]; omega) fun x hx => ?_
    cbv
    simp only [hsub]
    refine rdA hA ⟨hpt.1, hpt.2.1⟩ (by rw [hpt.2.2.1]; omega) fun y hy => ?_
    cbv
    (try simp only [ncast] at *)
    rw [hpt.2.2.1] at hx hy
    rw [hfs (j - 1) (by omega)] at hx
    have hbx := fst1_bnd hb (j - 1)
    rw [← hx] at hbx
    have hby := hb (j - 1)
    rw [← hy] at hby
    have hpw : (2 : Int) ^ (j - 1) ≤ 65536 := by
      have h1 : (2 : Nat) ^ (j - 1) ≤ 65536 := Nat.le_trans (Nat.pow_le_pow_right (by decide) (show j - 1 ≤ 16 by omega)) (by decide)
      have e : ((2 ^ (j - 1) : Nat) : Int) = (2 : Int) ^ (j - 1) := Int.natCast_pow 2 (j - 1)
      rw [← e]
      exact Int.ofNat_le.2 h1
    have hnew : A.bin .shl .i64 (A.bin .add .i64 x y) 1 = fst1 zs j := by
      rw [addA hA, wrap64 (by omega), shlA hA]
      have := shl64i (a := x + y) (n := 1) (by omega) (by omega) (by omega)
      rw [show ((1 : Nat) : Int) = 1 from rfl] at this
      rw [this]
      obtain ⟨j', rfl⟩ : ∃ j', j = j' + 1 := ⟨j - 1, by omega⟩
      simp only [fst1]
      rw [show j' + 1 - 1 = j' by omega] at hx hy
      rw [← hx, ← hy]
      omega
    obtain ⟨v, hv⟩ : ∃ v, v = fst1 zs j := ⟨_, rfl⟩
    rw [← hv] at hnew
    simp only [hnew]
    refine ⟨by subst hA; exact (by decide : (0 : Int) ≤ 1), ?_⟩
    refine wrA hA ⟨hpt.2.2.2.2.1, hpt.2.2.2.2.2⟩ (by rw [hpt.2.2.2.1]; omega) fun ys hys => ?_
    rw [hpt.2.2.2.1] at hys
    cbv
    (try simp only [ncast] at *)
    simp only [addA hA]
    have e : IntKind.i64.wrap (i + 1) = i + 1 := wrap64 (by omega)
    subst hag
    refine ⟨17 - (j + 1), ⟨[(1, .ptr 0 0), (2, .ptr 1 0), (3, .ptr 2 0), (4, .int .i64 (IntKind.i64.wrap (i + 1)))], [.box 97 (A.ints .i64 zs), .box 97 (A.ints .i64 [0,0,0,0,0,0,0,0,0,0,0,0,0,0,0,0,0]), .box 97 (A.ints .i64 ys)]⟩, by omega, ?_,
      IntKind.i64.wrap (i + 1), j + 1, ys, ⟨by omega, by omega, by omega, by rw [hys, List.length_set]; exact hfl, fun q hq => ?_⟩, rfl, rfl⟩
    · subst hA
      exact Sb [0, 1, 2]
    · rw [hys]
      simp only [List.getD, List.getElem?_set]
      by_cases hqj : j = q
      · subst hqj
        rw [if_pos rfl, if_pos (by omega)]
        exact hv
      · rw [if_neg hqj]
        exact hfs q (by omega)
  · have hgt := h
    (try simp only [wA hA] at hgt)
    (try rw [h]); clear h
    cbv
    (try simp only [ncast] at *)
    have hj17 : j = 17 := by omega
    have hff : fs = fvec zs := by
      refine List.ext_getElem? fun q => ?_
      rcases Nat.lt_or_ge q 17 with h | h
      · have h1 := hfs q (by omega)
        simp only [fvec, List.getElem?_map]
        rw [List.getElem?_range h]
        simp only [List.getD] at h1
        rw [List.getElem?_eq_getElem (by omega)] at h1 ⊢
        simp only [Option.getD_some] at h1
        rw [h1]; rfl
      · rw [List.getElem?_eq_none (by omega), List.getElem?_eq_none (by simp [fvec]; omega)]
    refine ldArr hA hfl ?_
    cbv
    refine stArr hA hfl ?_ ?_ ?_
    · exact lenA2 hA hfl
    · first | rfl | (rw [A_ints_len hA]; first | rfl | assumption)
    cbv
    (try simp only [ncast] at *)
    have hfl2 : (fvec zs).length = 17 := by rw [← hff]; exact hfl
    rw [hff, hq, ← hA]
    obtain ⟨gs, hgs⟩ : ∃ gs, gs = fvec zs := ⟨_, rfl⟩
    rw [← hgs] at hfl2 ⊢
    refine Fin_of ⟨[(2, .ptr 0 0)], [.box 97 (A.ints .i64 gs)]⟩ ?_ ?_
    · subst hA
      exact Sb [1]
    · cbv
      refine ldArr hA hfl2 ?_
      cbv
end Go.Sx

/- dyn: what codes stand for, by the program and by the document. -/
set_option maxRecDepth 100000
set_option maxHeartbeats 2000000
set_option linter.unusedVariables false
set_option linter.unusedSimpArgs false
namespace Go.Sx
open Go.Proofs.Tryd

/-- Of a length's code (257 and on): bits behind it; the least length. -/
def eL (j : Nat) : Nat := if j < 8 then 0 else (j - 4) / 4
def bL : Nat → Int
  | 0 => 3
  | j + 1 => bL j + 2 ^ eL j
theorem lens : ∀ j : Fin 9, bL j.1 = 3 + (j.1 : Int) ∧ (j.1 < 8 → eL j.1 = 0) := by decide
section
variable {A : Ar} {C : CallT} {s : St} {κ : List Nat → SV → List Ck → Prop}
end

theorem s_mostDist (large : Bool) : Spec prog 29 [.bool large] [] (fun r H => r = .int .i64 (if large then 32 else 30) ∧ H = []) := by
  refine Spec_of_kX (D := fun i => (0, [])) (ks := [0, 2]) tok mixed (fn := f29) rfl rfl rfl (by kernel_rfl) (N := 4) rfl (rs := [.tmp 2]) rfl (Nat.le_of_ble_eq_true rfl) fun A C Kp E ag L q hA hC hK hE hag hL hq => ?_
  cbv
  refine ifB_intro (fun h => ?_) (fun h => ?_)
  · have h1 := h
    (try simp only [wA hA] at h1)
    (try rw [h]); clear h
    cbv
    subst hA hq
    exact ⟨by rw [if_pos h1], rfl⟩
  · have h1 := h
    (try simp only [wA hA] at h1)
    (try rw [h]); clear h
    cbv
    subst hA hq
    exact ⟨by rw [h1]; rfl, rfl⟩

section
variable {A : Ar} {C : CallT} {s : St} {κ : List Nat → SV → List Ck → Prop}
end
end Go.Sx

/- dyn: whether lengths make a code that may come: contracts. -/
set_option maxRecDepth 100000
set_option maxHeartbeats 4000000
set_option linter.unusedVariables false
set_option linter.unusedSimpArgs false
namespace Go.Sx
open Go.Proofs.Tryd

/-- How many words; the longest; how many of one bit. -/
def wN : List Int → Int
  | [] => 0
  | x :: r => (if 0 < x then 1 else 0) + wN r
def mxI : List Int → Int
  | [] => 0
  | x :: r => if mxI r < x then x else mxI r
def onN : List Int → Int
  | [] => 0
  | x :: r => (if x = 1 then 1 else 0) + onN r
theorem wN_app (a : List Int) (x : Int) : wN (a ++ [x]) = wN a + (if 0 < x then 1 else 0) := by
  induction a with
  | nil => simp [wN]
  | cons y a ih => simp only [List.cons_append, wN, ih]; omega
theorem onN_app (a : List Int) (x : Int) : onN (a ++ [x]) = onN a + (if x = 1 then 1 else 0) := by
  induction a with
  | nil => simp [onN]
  | cons y a ih => simp only [List.cons_append, onN, ih]; omega
theorem mxI_nn (a : List Int) : 0 ≤ mxI a := by
  induction a with
  | nil => simp [mxI]
  | cons y a ih => simp only [mxI]; split <;> omega
theorem mxI_app (a : List Int) (x : Int) (hx : 0 ≤ x) : mxI (a ++ [x]) = if mxI a < x then x else mxI a := by
  induction a with
  | nil => simp only [List.nil_append, mxI]
  | cons y a ih =>
    simp only [List.cons_append, mxI, ih]
    repeat' split
    all_goals omega
theorem wN_bnd (a : List Int) : 0 ≤ wN a ∧ wN a ≤ a.length := by
  induction a with
  | nil => simp [wN]
  | cons y a ih => simp only [wN, List.length_cons]; split <;> omega
theorem onN_bnd (a : List Int) : 0 ≤ onN a ∧ onN a ≤ a.length := by
  induction a with
  | nil => simp [onN]
  | cons y a ih => simp only [onN, List.length_cons]; split <;> omega
theorem wN_zero {a : List Int} (hr : ∀ x ∈ a, 0 ≤ x ∧ x ≤ 15) (h : wN a = 0) : mxI a = 0 ∧ onN a = 0 := by
  induction a with
  | nil => exact ⟨rfl, rfl⟩
  | cons y a ih =>
    have hb := wN_bnd a
    have hy := hr y (List.mem_cons_self ..)
    simp only [wN] at h
    split at h
    · omega
    · obtain ⟨h1, h2⟩ := ih (fun x hx => hr x (List.mem_cons_of_mem _ hx)) (by omega)
      simp only [mxI, onN, h1, h2]
      refine ⟨?_, ?_⟩ <;> split <;> omega
theorem one_word {a : List Int} (hr : ∀ x ∈ a, 0 ≤ x ∧ x ≤ 15) (h : wN a = 1) : mxI a = 1 ↔ onN a = 1 := by
  induction a with
  | nil => simp [wN] at h
  | cons y a ih =>
    have hy := hr y (List.mem_cons_self ..)
    have hra : ∀ x ∈ a, 0 ≤ x ∧ x ≤ 15 := fun x hx => hr x (List.mem_cons_of_mem _ hx)
    simp only [wN] at h
    split at h
    · obtain ⟨h1, h2⟩ := wN_zero hra (by omega)
      simp only [mxI, onN, h1, h2]
      split <;> split <;> omega
    · have := ih hra (by omega)
      have hm := mxI_nn a
      simp only [mxI, onN]
      split <;> split <;> omega

def WhP (l : List Int) (no : Bool) : Prop := (∀ x ∈ l, 0 ≤ x ∧ x ≤ 15) ∧ ((wN l = 0 ∧ no = true) ∨ (wN l = 1 ∧ mxI l = 1) ∨ ChkQ l 1)
def WhQ (l : List Int) (no : Bool) (t : Bool) : Prop := t = true ↔ WhP l no
theorem WhQ.uniq {l : List Int} {no t t' : Bool} (h : WhQ l no t) (h' : WhQ l no t') : t = t' := by
  have := h.trans h'.symm
  cases t <;> cases t' <;> simp_all
theorem ChkQ_uniq1 {l : List Int} {y y' : Int} (h : ChkQ l y) (h' : ChkQ l y') : y = y' := by
  unfold ChkQ at h h'
  rcases h with ⟨h1, h2⟩ | ⟨h1, h2⟩ <;> rcases h' with ⟨k1, k2⟩ | ⟨k1, k2⟩
  · omega
  · exact absurd k1 h1
  · exact absurd h1 k1
  · omega

theorem s_whole (l : List Int) (ln : Nat) (no : Bool) (hln : ln = l.length) (hl : l.length ≤ 1000000) : Spec prog 39 [.sl 0 0 ln false, .bool no] [.vw (R.ints .i64 l)] (fun r H => ∃ t, WhQ l no t ∧ r = .bool t ∧ H = [.vw (R.ints .i64 l)]) := by
  refine Spec_of_kX (D := fun i => (0, [])) (ks := [0, 1, 4, 5, 6, 8, 9, 10, 11]) tok mixed (fn := f39) rfl rfl rfl (by kernel_rfl) (N := 47) rfl (rs := [.tmp 4]) rfl (Nat.le_of_ble_eq_true rfl) fun A C Kp E ag L q hA hC hK hE hag hL hq => ?_
  rw [← hA]
  cbv
  obtain ⟨lI, hlI⟩ : ∃ i : Int, i = l.length := ⟨_, rfl⟩
  have el : A.nat ln = lI := by rw [natA hA, hln, hlI]
  simp only [el]
  rw [hL]
  refine ⟨fun kk s => ∃ (j : Nat) (jI w mx : Int), j ≤ l.length ∧ jI = j ∧ (∀ x ∈ l.take j, 0 ≤ x ∧ x ≤ 15) ∧ w = wN (l.take j) ∧ mx = mxI (l.take j) ∧ kk = l.length - j ∧
      s = ⟨[(0, .sl 0 0 ln false), (1, .bool no), (5, .int .i64 w), (6, .int .i64 mx), (9, .sl 0 0 ln false), (10, .int .i64 lI), (11, .int .i64 jI)], [.vw (A.ints .i64 l)]⟩,
    ⟨_, ⟨[(0, .sl 0 0 ln false), (1, .bool no), (5, .int .i64 0), (6, .int .i64 0), (9, .sl 0 0 ln false), (10, .int .i64 lI), (11, .int .i64 0)], [.vw (A.ints .i64 l)]⟩, ?_, 0, 0, 0, 0, Nat.zero_le _, rfl, fun x hx => by simp at hx, rfl, rfl, rfl, rfl⟩, ?_⟩
  · subst hA
    exact Sb [0]
  rintro kk _ ⟨j, jI, w, mx, hj, hjI, hr, hw, hmx, hkk, rfl⟩
  have hwb := wN_bnd (l.take j)
  rw [List.length_take] at hwb
  cbv
  (try simp only [ncast] at *)
  refine ifB_intro (fun h => ?_) (fun h => ?_)
  · have hlt := h
    (try simp only [wA hA] at hlt)
    (try rw [h]); clear h
    cbv
    (try simp only [ncast] at *)
    have hjl : j < l.length := by omega
    refine rdA hA (by omega) (by omega) fun x hx => ?_
    have hx : x = l.getD j 0 := by rw [hx]; congr 1; omega
    have htk : l.take (j + 1) = l.take j ++ [x] := by
      rw [hx, List.take_succ_eq_append_getElem hjl]
      simp [List.getD, hjl]
    clear hx
    have hxm : x ∈ l := by
      have : x ∈ l.take (j + 1) := by rw [htk]; simp
      exact List.mem_of_mem_take this
    have bad : ¬ (0 ≤ x ∧ x ≤ 15) → WhQ l no false := fun h => by
      unfold WhQ WhP
      exact ⟨fun h1 => (by cases h1), fun h1 => absurd (h1.1 x hxm) h⟩
    cbv
    refine ifB_intro (fun h => ?_) (fun h => ?_)
    · have h1 := h
      (try simp only [wA hA] at h1)
      (try rw [h]); clear h
      cbv
      (try simp only [ncast] at *)
      subst hA hq
      exact ⟨false, bad (by omega), rfl, rfl⟩
    · have h1 := h
      (try simp only [wA hA] at h1)
      (try rw [h]); clear h
      cbv
      (try simp only [ncast] at *)
      refine ifB_intro (fun h => ?_) (fun h => ?_)
      · have h2 := h
        (try simp only [wA hA] at h2)
        (try rw [h]); clear h
        cbv
        (try simp only [ncast] at *)
        subst hA hq
        exact ⟨false, bad (by omega), rfl, rfl⟩
      · have h2 := h
        (try simp only [wA hA] at h2)
        (try rw [h]); clear h
        cbv
        (try simp only [ncast] at *)
        have hr2 : ∀ y ∈ l.take (j + 1), 0 ≤ y ∧ y ≤ 15 := fun y hy => by
          rw [htk] at hy
          rcases List.mem_append.1 hy with hy | hy
          · exact hr y hy
          · rw [List.mem_singleton.1 hy]; omega
        have e2 : A.bin .add .i64 jI 1 = jI + 1 := by rw [addA hA, wrap64 (by omega)]
        have hw2 := wN_app (l.take j) x
        have hm2 := mxI_app (l.take j) x (by omega)
        rw [← htk, ← hw] at hw2
        rw [← htk, ← hmx] at hm2
        refine ifB_intro (fun h => ?_) (fun h => ?_)
        · have h3 := h
          (try simp only [wA hA] at h3)
          (try rw [h]); clear h
          cbv
          (try simp only [ncast] at *)
          have e1 : A.bin .add .i64 w 1 = w + 1 := by rw [addA hA, wrap64 (by omega)]
          rw [if_pos h3] at hw2
          have e3 : A.mx mx x = if mx < x then x else mx := mxA hA mx x
          simp only [e1, e2, e3, ← hm2]
          subst hag
          refine ⟨l.length - (j + 1), ⟨[(0, .sl 0 0 ln false), (1, .bool no), (5, .int .i64 (w + 1)), (6, .int .i64 (mxI (l.take (j + 1)))), (9, .sl 0 0 ln false), (10, .int .i64 lI), (11, .int .i64 (jI + 1))], [.vw (A.ints .i64 l)]⟩, by omega, ?_, j + 1, jI + 1, w + 1, _, by omega, by omega, hr2, hw2.symm, rfl, rfl, rfl⟩
          subst hA
          exact Sb [0]
        · have h3 := h
          (try simp only [wA hA] at h3)
          (try rw [h]); clear h
          cbv
          (try simp only [ncast] at *)
          rw [if_neg (by omega)] at hw2
          have hmn := mxI_nn (l.take j)
          rw [if_neg (by omega)] at hm2
          simp only [e2]
          subst hag
          refine ⟨l.length - (j + 1), ⟨[(0, .sl 0 0 ln false), (1, .bool no), (5, .int .i64 w), (6, .int .i64 mx), (9, .sl 0 0 ln false), (10, .int .i64 lI), (11, .int .i64 (jI + 1))], [.vw (A.ints .i64 l)]⟩, by omega, ?_, j + 1, jI + 1, w, mx, by omega, by omega, hr2, by omega, hm2.symm, rfl, rfl⟩
          subst hA
          exact Sb [0]
  · have hge := h
    (try simp only [wA hA] at hge)
    (try rw [h]); clear h
    cbv
    (try simp only [ncast] at *)
    have hjl : j = l.length := by omega
    rw [hjl, List.take_length] at hr hw hmx
    clear hwb hj hge hkk hjI
    have tail : C 48 [.sl 0 0 ln false] = C 48 [.sl 0 0 ln false] := rfl
    clear tail
    refine ifB_intro (fun h => ?_) (fun h => ?_)
    · have h1 := h
      (try simp only [wA hA] at h1)
      (try rw [h]); clear h
      cbv
      (try simp only [ncast] at *)
      cases no with
      | true =>
        cbv
        subst hA hq
        refine ⟨true, ?_, rfl, rfl⟩
        unfold WhQ WhP
        exact ⟨fun _ => ⟨hr, (.inl ⟨by omega,rfl⟩)⟩, fun _ => rfl⟩
      | false =>
        cbv
        refine ifF (by simp only [eqlA hA]; simp; omega) fun h => ?_
        (try rw [h]); clear h
        cbv
        (try simp only [ncast] at *)
        refine call_check hC hA (hb := 0) hln (cells_vwA hA rfl hln) ⟨⟨(show 0 < 1 by omega), rfl, rfl, rfl⟩, trivial⟩ fun y hy => ?_
        cbv
        (try simp only [ncast] at *)
        obtain ⟨t, ht⟩ : ∃ t, t = A.cmp .eql y 1 := ⟨_, rfl⟩
        simp only [← ht]
        rw [eqlA hA] at ht
        subst hA hq
        refine ⟨t, ?_, rfl, rfl⟩
        unfold WhQ WhP
        rw [ht]
        simp only [beq_iff_eq]
        refine ⟨fun h => ⟨hr, .inr (.inr (h ▸ hy))⟩, fun h => ?_⟩
        rcases h.2 with h | h | h
        · exact absurd h.2 (by simp)
        · exact absurd h (by omega)
        · exact ChkQ_uniq1 hy h
    · have h1 := h
      (try simp only [wA hA] at h1)
      (try rw [h]); clear h
      cbv
      (try simp only [ncast] at *)
      refine ifB_intro (fun h => ?_) (fun h => ?_)
      · have h2 := h
        (try simp only [wA hA] at h2)
        (try rw [h]); clear h
        cbv
        (try simp only [ncast] at *)
        refine ifB_intro (fun h => ?_) (fun h => ?_)
        · have h3 := h
          (try simp only [wA hA] at h3)
          (try rw [h]); clear h
          cbv
          (try simp only [ncast] at *)
          subst hA hq
          refine ⟨true, ?_, rfl, rfl⟩
          unfold WhQ WhP
          exact ⟨fun _ => ⟨hr, (.inr (.inl ⟨by omega,by omega⟩))⟩, fun _ => rfl⟩
        · have h3 := h
          (try simp only [wA hA] at h3)
          (try rw [h]); clear h
          cbv
          (try simp only [ncast] at *)
          refine call_check hC hA (hb := 0) hln (cells_vwA hA rfl hln) ⟨⟨(show 0 < 1 by omega), rfl, rfl, rfl⟩, trivial⟩ fun y hy => ?_
          cbv
          (try simp only [ncast] at *)
          obtain ⟨t, ht⟩ : ∃ t, t = A.cmp .eql y 1 := ⟨_, rfl⟩
          simp only [← ht]
          rw [eqlA hA] at ht
          subst hA hq
          refine ⟨t, ?_, rfl, rfl⟩
          unfold WhQ WhP
          rw [ht]
          simp only [beq_iff_eq]
          refine ⟨fun h => ⟨hr, .inr (.inr (h ▸ hy))⟩, fun h => ?_⟩
          rcases h.2 with h | h | h
          · exact absurd h (by simp; omega)
          · exact absurd h (by omega)
          · exact ChkQ_uniq1 hy h
      · have h2 := h
        (try simp only [wA hA] at h2)
        (try rw [h]); clear h
        cbv
        (try simp only [ncast] at *)
        refine call_check hC hA (hb := 0) hln (cells_vwA hA rfl hln) ⟨⟨(show 0 < 1 by omega), rfl, rfl, rfl⟩, trivial⟩ fun y hy => ?_
        cbv
        (try simp only [ncast] at *)
        obtain ⟨t, ht⟩ : ∃ t, t = A.cmp .eql y 1 := ⟨_, rfl⟩
        simp only [← ht]
        rw [eqlA hA] at ht
        subst hA hq
        refine ⟨t, ?_, rfl, rfl⟩
        unfold WhQ WhP
        rw [ht]
        simp only [beq_iff_eq]
        refine ⟨fun h => ⟨hr, .inr (.inr (h ▸ hy))⟩, fun h => ?_⟩
        rcases h.2 with h | h | h
        · exact absurd h (by simp; omega)
        · exact absurd h (by omega)
        · exact ChkQ_uniq1 hy h
end Go.Sx

/- dyn: whether lengths are right, by the program. -/
set_option maxRecDepth 100000
set_option maxHeartbeats 4000000
set_option linter.unusedVariables false
set_option linter.unusedSimpArgs false
namespace Go.Sx
open Go.Proofs.Tryd

def mosD (large : Bool) : Int := if large then 32 else 30
def RgP (lit dist : List Int) (large : Bool) : Prop := (257 ≤ lit.length ∧ lit.length ≤ 286 ∧ 1 ≤ dist.length ∧ (dist.length : Int) ≤ mosD large) ∧ 0 < lit.getD 256 0 ∧ WhP lit false ∧ WhP dist true
def RgQ (lit dist : List Int) (large t : Bool) : Prop := t = true ↔ RgP lit dist large
section
variable {A : Ar} {C : CallT} {s : St} {κ : List Nat → SV → List Ck → Prop}
theorem call_mostD (hC : C = CallX prog) {large : Bool} (hk : κ [] (.int .i64 (mosD large)) s.H) : C 29 [.bool large] s κ :=
  cal_num hC (s_mostDist large) ⟨⟨trivial, trivial, rfl⟩, trivial⟩ rfl hk
theorem call_whole (hC : C = CallX prog) (hA : A = R) {l : List Int} {hb ln : Nat} {no : Bool} (hln : ln = l.length) (hl : l.length ≤ 1000000) (h4 : cellsAt s.H hb 0 ln = some (A.ints .i64 l)) {av : List SV} (hav : argsOk 1 (linkOf s.H.length [(hb, 0, false)]) [.sl 0 0 ln false, .bool no] av)
    (hk : ∀ t, WhQ l no t → κ [] (.bool t) s.H) : C 39 av s κ := by
  have hS := s_whole l ln no hln hl
  rw [← hA] at hS
  refine cal_of hC hS [(hb, 0, false)] ⟨by simp, trivial⟩ ⟨hLtsA hA .., zOksA hA .., ?_, trivial⟩ hav ?_
  · rw [renA hA, A_ints_len hA, ← hln]; exact h4
  rintro _ _ ⟨t, h1, rfl, rfl⟩
  refine ⟨_, _, s.H, rfl, rfl, ?_, hk t h1⟩
  simp [backH, setAll]
end

theorem s_right17 (lit dist : List Int) (a b : Nat) (large : Bool) (ha : a = lit.length) (hb : b = dist.length) (hl : lit.length ≤ 1000000) (hd : dist.length ≤ 1000000) :
    Spec prog 16 [.sl 0 0 a false, .sl 1 0 b false, .bool large] [.vw (R.ints .i64 lit), .vw (R.ints .i64 dist)] (fun r H => ∃ t, RgQ lit dist large t ∧ r = .bool t ∧ H = [.vw (R.ints .i64 lit), .vw (R.ints .i64 dist)]) := by
  refine Spec_of_kX (D := fun i => (0, [])) (ks := [0, 1, 2, 6]) tok mixed (fn := f16) rfl rfl rfl (by kernel_rfl) (N := 39) rfl (rs := [.tmp 6]) rfl (Nat.le_of_ble_eq_true rfl) fun A C Kp E ag L q hA hC hK hE hag hL hq => ?_
  rw [← hA]
  obtain ⟨aI, haI⟩ : ∃ i : Int, i = lit.length := ⟨_, rfl⟩
  obtain ⟨bI, hbI⟩ : ∃ i : Int, i = dist.length := ⟨_, rfl⟩
  have ea : A.nat a = aI := by rw [natA hA, ha, haI]
  have eb : A.nat b = bI := by rw [natA hA, hb, hbI]
  have hm : mosD large = 32 ∨ mosD large = 30 := by unfold mosD; split <;> simp
  obtain ⟨mo, hmo⟩ : ∃ m, m = mosD large := ⟨_, rfl⟩
  rw [← hmo] at hm
  cbv
  (try simp only [ncast] at *)
  simp only [ea]
  refine ifB_intro (fun h => ?_) (fun h => ?_)
  · have h1 := h
    (try simp only [wA hA] at h1)
    (try rw [h]); clear h
    cbv
    (try simp only [ncast] at *)
    subst hA hq
    exact ⟨false, ⟨fun h => (by cases h), fun h => absurd h.1 (by rw [← hmo]; omega)⟩, rfl, rfl⟩
  · have h1 := h
    (try simp only [wA hA] at h1)
    (try rw [h]); clear h
    cbv
    (try simp only [ncast] at *)
    simp only [ea]
    refine ifB_intro (fun h => ?_) (fun h => ?_)
    · have h2 := h
      (try simp only [wA hA] at h2)
      (try rw [h]); clear h
      cbv
      (try simp only [ncast] at *)
      subst hA hq
      exact ⟨false, ⟨fun h => (by cases h), fun h => absurd h.1 (by rw [← hmo]; omega)⟩, rfl, rfl⟩
    · have h2 := h
      (try simp only [wA hA] at h2)
      (try rw [h]); clear h
      cbv
      (try simp only [ncast] at *)
      simp only [eb]
      refine ifB_intro (fun h => ?_) (fun h => ?_)
      · have h3 := h
        (try simp only [wA hA] at h3)
        (try rw [h]); clear h
        cbv
        (try simp only [ncast] at *)
        subst hA hq
        exact ⟨false, ⟨fun h => (by cases h), fun h => absurd h.1 (by rw [← hmo]; omega)⟩, rfl, rfl⟩
      · have h3 := h
        (try simp only [wA hA] at h3)
        (try rw [h]); clear h
        cbv
        (try simp only [ncast] at *)
        refine call_mostD hC ?_
        rw [← hmo]
        cbv
        (try simp only [ncast] at *)
        simp only [eb]
        refine ifB_intro (fun h => ?_) (fun h => ?_)
        · have h4 := h
          (try simp only [wA hA] at h4)
          (try rw [h]); clear h
          cbv
          (try simp only [ncast] at *)
          subst hA hq
          exact ⟨false, ⟨fun h => (by cases h), fun h => absurd h.1 (by rw [← hmo]; omega)⟩, rfl, rfl⟩
        · have h4 := h
          (try simp only [wA hA] at h4)
          (try rw [h]); clear h
          cbv
          (try simp only [ncast] at *)
          refine rdA hA (by omega) (by omega) fun x hx => ?_
          have hx : x = lit.getD 256 0 := hx
          cbv
          (try simp only [ncast] at *)
          refine ifB_intro (fun h => ?_) (fun h => ?_)
          · have h5 := h
            (try simp only [wA hA] at h5)
            (try rw [h]); clear h
            cbv
            (try simp only [ncast] at *)
            refine call_whole hC hA (hb := 0) ha hl (cells_vwA hA rfl ha) ⟨⟨(show 0 < 1 by omega), rfl, rfl, rfl⟩, ⟨trivial, trivial, rfl⟩, trivial⟩ fun t ht => ?_
            cbv
            (try simp only [ncast] at *)
            cases t with
            | false =>
              cbv
              (try simp only [ncast] at *)
              subst hA hq
              refine ⟨false, ⟨fun h => (by cases h), fun h => ?_⟩, rfl, rfl⟩
              exact absurd (ht.2 h.2.2.1) (by simp)
            | true =>
              cbv
              (try simp only [ncast] at *)
              refine call_whole hC hA (hb := 1) hb hd (cells_vwA hA rfl hb) ⟨⟨(show 0 < 1 by omega), rfl, rfl, rfl⟩, ⟨trivial, trivial, rfl⟩, trivial⟩ fun t2 ht2 => ?_
              cbv
              (try simp only [ncast] at *)
              subst hA hq
              refine ⟨t2, ⟨fun h => ⟨by rw [← hmo]; omega, by omega, ht.1 rfl, ht2.1 h⟩, fun h => ht2.2 h.2.2.2⟩, rfl, rfl⟩
          · have h5 := h
            (try simp only [wA hA] at h5)
            (try rw [h]); clear h
            cbv
            (try simp only [ncast] at *)
            subst hA hq
            exact ⟨false, ⟨fun h => (by cases h), fun h => absurd h.2.1 (by omega)⟩, rfl, rfl⟩
end Go.Sx

/- Bits in the other order: contracts. -/
set_option maxRecDepth 100000
set_option maxHeartbeats 4000000
namespace Go.Sx
open Go.Proofs.Tryd

def rby (x : Int) : Int :=
  let y := bor .u32 (band .u32 (shrI .u32 x 8) 16711935) (shlI .u32 (band .u32 x 16711935) 8)
  bor .u32 (shrI .u32 y 16) (shlI .u32 y 16)
def rv (x : Int) : Int :=
  let y := bor .u32 (band .u32 (shrI .u32 x 1) 1431655765) (shlI .u32 (band .u32 x 1431655765) 1)
  let z := bor .u32 (band .u32 (shrI .u32 y 2) 858993459) (shlI .u32 (band .u32 y 858993459) 2)
  let u := bor .u32 (band .u32 (shrI .u32 z 4) 252645135) (shlI .u32 (band .u32 z 252645135) 4)
  rby u

theorem s_rby (x : Int) : Spec prog 80 [.int .u32 x] [] (fun r H => r = .int .u32 (rby x) ∧ H = []) := by
  refine Spec_of_xX (D := fun _ => (0, [])) (ks := [0, 2]) tok mixed (fn := f80) rfl rfl rfl (by kernel_rfl) (N := 15) rfl (rs := [.tmp 2]) rfl (by show 1 ≤ 15; omega) fun A C ag L q hA hC hag hL hq => ?_
  cbv
  subst hA hq
  have h : ∀ n : Int, 0 ≤ n → R.ge0 n := fun n h => h
  exact ⟨h _ (by decide), h _ (by decide), h _ (by decide), h _ (by decide), rfl, rfl⟩

theorem s_rv (x : Int) : Spec prog 72 [.int .u32 x] [] (fun r H => r = .int .u32 (rv x) ∧ H = []) := by
  refine Spec_of_xX (D := fun _ => (0, [])) (ks := [0, 2]) tok mixed (fn := f72) rfl rfl rfl (by kernel_rfl) (N := 26) rfl (rs := [.tmp 2]) rfl (by show 1 ≤ 26; omega) fun A C ag L q hA hC hag hL hq => ?_
  cbv
  have h : ∀ n : Int, 0 ≤ n → A.ge0 n := by subst hA; exact fun n h => h
  refine ⟨h _ (by decide), h _ (by decide), h _ (by decide), h _ (by decide), h _ (by decide), h _ (by decide), ?_⟩
  refine cal_int hC (s_rby _) ⟨⟨trivial, trivial, rfl⟩, trivial⟩ fun y hy => ?_
  cbv
  subst hA hq hy
  exact ⟨rfl, rfl⟩

def tn (x n : Int) : Int := IntKind.u32.wrap (shrI .u64 (IntKind.u64.wrap (rv x)) (IntKind.i64.wrap (32 - (if 32 < (if n < 0 then 0 else n) then 32 else (if n < 0 then 0 else n)))))

theorem s_turn (x n : Int) : Spec prog 56 [.int .u32 x, .int .i64 n] [] (fun r H => r = .int .u32 (tn x n) ∧ H = []) := by
  refine Spec_of_xX (D := fun _ => (0, [])) (ks := [0, 1, 4]) tok mixed (fn := f56) rfl rfl rfl (by kernel_rfl) (N := 15) rfl (rs := [.tmp 4]) rfl (by show 2 ≤ 15; omega) fun A C ag L q hA hC hag hL hq => ?_
  cbv
  refine cal_int hC (s_rv _) ⟨⟨trivial, trivial, rfl⟩, trivial⟩ fun y hy => ?_
  cbv
  subst hA hq hy
  refine ⟨?_, rfl, rfl⟩
  show 0 ≤ IntKind.i64.wrap _
  rw [Go.IntKind.wrap_i64]
  simp only [R]
  split <;> split <;> omega

def within (x lo hi : Int) : Int := if x < lo then lo else if hi < x then hi else x
theorem s_within (x lo hi : Int) : Spec prog 7 [.int .i64 x, .int .i64 lo, .int .i64 hi] [] (fun r H => r = .int .i64 (within x lo hi) ∧ H = []) := by
  refine Spec_of_xX (D := fun _ => (0, [])) (ks := [0, 1, 2, 6]) tok mixed (fn := f7) rfl rfl rfl (by kernel_rfl) (N := 16) rfl (rs := [.tmp 6]) rfl (by show 3 ≤ 16; omega) fun A C ag L q hA hC hag hL hq => ?_
  cbv
  refine ifB_intro (fun h => ?_) (fun h => ?_)
  · cbv
    subst hA hq
    have h : x < lo := of_decide_eq_true h
    exact ⟨by rw [within, if_pos h], rfl⟩
  cbv
  refine ifB_intro (fun h' => ?_) (fun h' => ?_)
  · cbv
    subst hA hq
    have h : ¬ x < lo := of_decide_eq_false h
    have h' : hi < x := of_decide_eq_true h'
    exact ⟨by rw [within, if_neg h, if_pos h'], rfl⟩
  · cbv
    subst hA hq
    have h : ¬ x < lo := of_decide_eq_false h
    have h' : ¬ hi < x := of_decide_eq_false h'
    exact ⟨by rw [within, if_neg h, if_neg h'], rfl⟩

/-- What the document's turn holds behind so many rounds. -/
def T (x : Int) : Nat → Int
  | 0 => 0
  | i + 1 => IntKind.u32.wrap (IntKind.u32.wrap (T x i * 2) + ((x / 2 ^ i).tmod 2))

def FT (x n : Int) (i k : Nat) (y z j : Int) : Prop := j = i ∧ z = x / 2 ^ i ∧ y = T x i ∧ i ≤ min n.toNat 32 ∧ k = 32 - i

theorem s_refturn (x n : Int) (h0 : 0 ≤ x) (h1 : x < 4294967296) : Spec prog 44 [.int .u32 x, .int .i64 n] [] (fun r H => r = .int .u32 (T x (min n.toNat 32)) ∧ H = []) := by
  refine Spec_of_xX (D := fun _ => (0, [])) (ks := [0, 1, 4, 5, 6]) tok mixed (fn := f44) rfl rfl rfl (by kernel_rfl) (N := 24) rfl (rs := [.tmp 4]) rfl (by show 2 ≤ 24; omega) fun A C ag L q hA hC hag hL hq => ?_
  cbv
  rw [hL]
  refine loop_keep (fun k s => ∃ i : Nat, ∃ y z j : Int, s = ⟨[(0, .int .u32 z), (1, .int .i64 n), (4, .int .u32 0), (5, .int .u32 y), (6, .int .i64 j)], []⟩ ∧ FT x n i k y z j) [0, 1, 4, 5, 6] 32 ?_ ?_
  · exact ⟨0, _, _, _, rfl, rfl, by simp, rfl, by omega, rfl⟩
  rintro k _ ⟨i, y, z, j, rfl, hF⟩
  cbv
  refine ifB_intro (fun h => ?_) (fun h => ?_)
  · rw [h]
    cbv
    refine ifB_intro (fun h' => ?_) (fun h' => ?_)
    · rw [h']
      cbv
      subst hA hag
      obtain ⟨hj, hz, hy, hi, rfl⟩ := hF
      have h : j < n := of_decide_eq_true h
      have h' : j < 32 := of_decide_eq_true h'
      refine ⟨(by decide : (2:Int) ≠ 0), (by decide : (2:Int) ≠ 0), ?_⟩
      refine again_keep [0, 1, 4, 5, 6] (32 - (i + 1)) (by omega) ⟨i + 1, _, _, _, rfl, ?_, ?_, ?_, by omega, rfl⟩
      · show IntKind.i64.wrap (j + 1) = _
        rw [Go.IntKind.wrap_i64]; omega
      · show IntKind.u32.wrap (z.tdiv 2) = _
        have hp : (0 : Int) < 2 ^ i := Int.pow_pos (by decide)
        have hz0 : 0 ≤ z := by rw [hz]; exact Int.ediv_nonneg h0 (by omega)
        have hz1 : z ≤ x := by rw [hz]; exact Int.ediv_le_self _ h0
        rw [Int.tdiv_eq_ediv_of_nonneg hz0, Go.IntKind.wrap_u32, hz, Int.pow_succ, ← Int.ediv_ediv_of_nonneg (by omega)]
        rw [← hz]
        omega
      · show IntKind.u32.wrap (IntKind.u32.wrap (y * 2) + z.tmod 2) = _
        rw [hy, hz]; rfl
    · rw [h']
      cbv
      subst hA hq
      obtain ⟨hj, hz, hy, hi, rfl⟩ := hF
      have h' : ¬ j < 32 := of_decide_eq_false h'
      have : i = min n.toNat 32 := by omega
      exact ⟨by rw [hy, this], rfl⟩
  · rw [h]
    cbv
    subst hA hq
    obtain ⟨hj, hz, hy, hi, rfl⟩ := hF
    have h : ¬ j < n := of_decide_eq_false h
    have : i = min n.toNat 32 := by omega
    exact ⟨by rw [hy, this], rfl⟩
end Go.Sx

/- canon: the words of lengths. -/
set_option maxRecDepth 100000
set_option maxHeartbeats 4000000
set_option linter.unusedVariables false
set_option linter.unusedSimpArgs false
namespace Go.Sx
open Go.Proofs.Tryd

section
variable {A : Ar} {C : CallT} {s : St} {κ : List Nat → SV → List Ck → Prop}
theorem call_wrong (hC : C = CallX prog) (hA : A = R) {l : List Int} {hb ln : Nat} (hln : ln = l.length) (h4 : cellsAt s.H hb 0 ln = some (A.ints .i64 l)) {av : List SV} (hav : argsOk 1 (linkOf s.H.length [(hb, 0, false)]) [.sl 0 0 ln false] av)
    (hk : ∀ y, WrQ l y → κ [] (.int .i64 y) s.H) : C 53 av s κ := by
  have hS := s_wrong l ln hln
  rw [← hA] at hS
  refine cal_of hC hS [(hb, 0, false)] ⟨by simp, trivial⟩ ⟨hLtsA hA .., zOksA hA .., ?_, trivial⟩ hav ?_
  · rw [renA hA, A_ints_len hA, ← hln]; exact h4
  rintro _ _ ⟨y, h1, rfl, rfl⟩
  refine ⟨_, _, s.H, rfl, rfl, ?_, hk y h1⟩
  simp [backH, setAll]
theorem call_firsts (hC : C = CallX prog) (hA : A = R) {zs : List Int} (h17 : zs.length = 17) (hb : ∀ q, 0 ≤ zs.getD q 0 ∧ zs.getD q 0 ≤ 4096)
    (hk : ∀ fs, fs = fvec zs → κ [] (.agg (A.ints .i64 fs)) (apd s.H [.box 97 (A.ints .i64 fs)])) : C 55 [.agg (A.ints .i64 zs)] s κ := by
  have hS := s_firsts zs h17 hb
  rw [← hA] at hS
  refine cal_of hC hS [] trivial trivial ⟨⟨hLtsA hA .., zOksA hA .., by rw [renA hA]⟩, trivial⟩ ?_
  rintro _ _ ⟨rfl, rfl⟩
  refine ⟨_, .agg (A.ints .i64 (fvec zs)), s.H ++ [.box 97 (A.ints .i64 (fvec zs))], rfl, ?_, ?_, ?_⟩
  · simp only [renV, renX, renA hA]
  · simp only [backH, renCk, List.map_cons, List.map_nil, renA hA, setAll]
    rfl
  · have := hk _ rfl
    rw [apd_eq] at this
    exact this
end

def CodeK : List FK := [.num .u32, .num .i64]
def rowC (l : List Int) (i : Nat) : List Int := if 0 < l.getD i 0 then [tn (IntKind.u32.wrap (fst1 (cvec l) (l.getD i 0).toNat + cn (l.take i) (l.getD i 0).toNat)) (l.getD i 0), l.getD i 0] else [0, 0]
def codesL (l : List Int) : List (List Int) := (List.range l.length).map (rowC l)

def rowsTo (l : List Int) (j : Nat) : List (List Int) := (List.range l.length).map fun i => if i < j then rowC l i else [0, 0]
def CdQ (l : List Int) (i : Int) (j : Nat) (ns : List Int) (rs : List (List Int)) : Prop := i = (j : Int) ∧ j ≤ l.length ∧ ns.length = 17 ∧ (∀ q, q ≤ 16 → ns.getD q 0 = fst1 (cvec l) q + (if q = 0 then 0 else cn (l.take j) q)) ∧ rs = rowsTo l j
theorem rowsTo_len (l : List Int) (j : Nat) : (rowsTo l j).length = l.length := by simp [rowsTo]

theorem s_codes (l : List Int) (ln : Nat) (hln : ln = l.length) : Spec prog 38 [.sl 0 0 ln false] [.vw (R.ints .i64 l)]
    (fun r H => ∃ (e : Int) (rs : List (List Int)) (k : Nat) (cs : List SV), WrQ l e ∧ (e = 0 → rs = codesL l) ∧ (e ≠ 0 → rs = []) ∧ k = rs.length ∧ RWs CodeK rs cs ∧ r = .tup [.lst 1 k, .int .i64 e] ∧ H = [.vw (R.ints .i64 l), .lst 58 2 cs]) := by
  refine Spec_of_kF (D := fun i => (0, [])) (ks := [0, 2, 3, 4, 5, 7, 8, 9, 10, 26, 27, 28]) tok mixed (fn := f38) rfl rfl rfl (by kernel_rfl) (N := 53) rfl (rs := [.tmp 2, .tmp 3]) rfl (Nat.le_of_ble_eq_true rfl) fun A C Kp E ag L q hA hC hK hE hag hL hq => ?_
  rw [← hA]
  cbv
  refine call_wrong hC hA hln (cells_vwA hA rfl hln) ⟨⟨(show 0 < 1 by omega), rfl, rfl, rfl⟩, trivial⟩ fun e hW => ?_
  cbv
  refine ifB_intro (fun h => ?_) (fun h => ?_)
  · have he := h
    (try simp only [wA hA] at he)
    (try rw [h]); clear h
    cbv
    have rw0 : RWs CodeK [] [] := RWs.nil rfl
    subst hA hq
    refine Fin_of ⟨[(2, .lst 1 0), (3, .int .i64 e)], [.vw (R.ints .i64 l), .lst 58 2 []]⟩ ((Sub_nilT (i := 2) 58 2 rfl).trans ?_) ⟨e, [], 0, [], hW, fun h => absurd h he, fun _ => rfl, rfl, rw0, rfl, rfl⟩
    exact Sc [0, 1] (by repeat' (first | exact trivial | exact fun _ => rfl | exact fun h => absurd h (by simp) | exact subC_ints rfl | exact subC_rw rw0 rfl | exact subC_rwv rw0 rfl rfl | refine And.intro ?_ ?_ | rfl | (simp [subH_nil, hLts, hLt, renCk, renC, sg, Ck.cells, R_ints_ren, R_ints_hLts]; done)))
  · have he := h
    (try simp only [wA hA] at he)
    (try rw [h]); clear h
    cbv
    (try simp only [ncast] at *)
    subst he
    refine call_counts hC hA hln (cells_vwA hA rfl hln) fun zs ok h17 hok hno => ?_
    obtain ⟨hokk, hbig⟩ : okL l ∧ wg (cvec l) 17 ≤ 65536 := by
      rcases hW with ⟨_, h⟩ | ⟨_, _, h⟩ | ⟨h1, h2, _⟩
      · omega
      · omega
      · exact ⟨h1, h2⟩
    cases ok
    · exact absurd hokk (hno rfl)
    have hzs := (hok rfl).2
    clear hok hno
    cbv
    refine stArrE hA ?_ ?_ ?_
    · exact lenA2 hA h17
    · have key := setAllA hA (k := .i64) h17 (cs := [.int .i64 0, .int .i64 0, .int .i64 0, .int .i64 0, .int .i64 0, .int .i64 0, .int .i64 0, .int .i64 0, .int .i64 0, .int .i64 0, .int .i64 0, .int .i64 0, .int .i64 0, .int .i64 0, .int .i64 0, .int .i64 0, .int .i64 0]) rfl
      cbv at key
      exact key
    cbv
    refine ldArr hA h17 ?_
    cbv
    refine call_firsts hC hA h17 (fun q => by rw [hzs]; exact cvec_bnd hokk.1 q) fun fs hfs => ?_
    have hf17 : fs.length = 17 := by rw [hfs]; simp [fvec]
    cbv
    refine stArrE hA ?_ ?_ ?_
    · exact lenA2 hA hf17
    · have key := setAllA hA (k := .i64) hf17 (cs := [.int .i64 0, .int .i64 0, .int .i64 0, .int .i64 0, .int .i64 0, .int .i64 0, .int .i64 0, .int .i64 0, .int .i64 0, .int .i64 0, .int .i64 0, .int .i64 0, .int .i64 0, .int .i64 0, .int .i64 0, .int .i64 0, .int .i64 0]) rfl
      cbv at key
      exact key
    cbv
    have rw0 : RWs CodeK (List.replicate ln [0, 0]) (A.row (A.nat ln) [.int .u32 0, .int .i64 0]) := RWs_row hA rfl (by decide) rfl
    refine ⟨?_, ?_⟩
    · subst hA
      have := hokk.1
      refine ⟨?_, ?_, ?_, ?_⟩ <;> simp only [R] <;> omega
    rw [hL]
    refine ⟨fun kk s => ∃ (i : Int) (j : Nat) (ns : List Int) (rs : List (List Int)) (cs : List SV), CdQ l i j ns rs ∧ RWs CodeK rs cs ∧ kk = l.length - j ∧ s = ⟨[(7, .ptr 1 0), (8, .lst 2 ln), (26, .sl 0 0 ln false), (27, .int .i64 (A.nat ln)), (28, .int .i64 i)], [.vw (A.ints .i64 l), .box 97 (A.ints .i64 ns), .lst 58 2 cs]⟩,
      ⟨_, ⟨[(7, .ptr 1 0), (8, .lst 2 ln), (26, .sl 0 0 ln false), (27, .int .i64 (A.nat ln)), (28, .int .i64 0)], [.vw (A.ints .i64 l), .box 97 (A.ints .i64 fs), .lst 58 2 (A.row (A.nat ln) [.int .u32 0, .int .i64 0])]⟩, ?_, 0, 0, fs, _, _, ⟨rfl, by omega, hf17, ?_, ?_⟩, rw0, rfl, rfl⟩, ?_⟩
    · subst hA
      exact Sc [0, 4, 5] (by repeat' (first | exact trivial | exact fun _ => rfl | exact fun h => absurd h (by simp) | exact subC_ints rfl | exact subC_rw rw0 rfl | exact subC_rwv rw0 rfl rfl | refine And.intro ?_ ?_ | rfl | (simp [subH_nil, hLts, hLt, renCk, renC, sg, Ck.cells, R_ints_ren, R_ints_hLts]; done)))
    · intro q hq
      rw [hfs]
      simp only [fvec, List.getD, List.getElem?_map, List.take_zero, cn]
      rw [List.getElem?_range (by omega)]
      simp only [Option.map_some, Option.getD_some, hzs]
      split <;> omega
    · rw [hln]
      refine List.ext_getElem? fun q => ?_
      simp [rowsTo, List.getElem?_replicate]
      by_cases hq : q < l.length <;> simp [hq]
    rintro kk _ ⟨i, j, ns, rs, cs, hQ, rwR, hkk, rfl⟩
    have hi := hQ.1
    have hj := hQ.2.1
    have hnl := hQ.2.2.1
    have hns := hQ.2.2.2.1
    have hrs := hQ.2.2.2.2
    have hrl : rs.length = l.length := by rw [hrs, rowsTo_len]
    have hl4 := hokk.1
    cbv
    refine ifB_intro (fun h => ?_) (fun h => ?_)
    · have hlt := h
      (try simp only [wA hA] at hlt)
      (try rw [h]); clear h
      cbv
      (try simp only [ncast] at *)
      refine rdA hA (by (first | omega | (try simp only [wA hA, wB hA, Go.IntKind.wrap_i64] at *) <;> omega | (try simp only [decide_eq_true_eq, decide_eq_false_iff_not, beq_iff_eq, beq_eq_false_iff_ne, bne_iff_ne, bne_eq_false_iff_eq, Bool.not_eq_true', Bool.not_eq_false', ncast, Int.not_lt, Int.not_le, ne_eq, not_true_eq_false, not_false_eq_true, false_or, true_and, Go.IntKind.wrap_i64] at *) <;> omega)) (by (first | omega | (try simp only [wA hA, wB hA, Go.IntKind.wrap_i64] at *) <;> omega | (try simp only [decide_eq_true_eq, decide_eq_false_iff_not, beq_iff_eq, beq_eq_false_iff_ne, bne_iff_ne, bne_eq_false_iff_eq, Bool.not_eq_true', Bool.not_eq_false', ncast, Int.not_lt, Int.not_le, ne_eq, not_true_eq_false, not_false_eq_true, false_or, true_and, Go.IntKind.wrap_i64] at *) <;> omega)) fun x hx => ?_
      cbv
      (try simp only [ncast] at *)
      have hji : 0 + i.toNat = j := by omega
      rw [hji] at hx
      have hjl : j < l.length := by omega
      have hxb : 0 ≤ x ∧ x ≤ 16 := hokk.2 x (by rw [hx]; simp [List.getD, hjl])
      have htk : l.take (j + 1) = l.take j ++ [x] := by
        rw [List.take_add_one, hx]
        simp [List.getD, hjl]
      refine ifB_intro (fun h => ?_) (fun h => ?_)
      · have hpos := h
        (try simp only [wA hA] at hpos)
        (try rw [h]); clear h
        cbv
        (try simp only [ncast] at *)
        refine rdA hA (by omega) (by omega) fun v hv => ?_
        have hxt : 0 + x.toNat = x.toNat := Nat.zero_add _
        rw [hxt] at hv
        have hv1 : v = fst1 (cvec l) x.toNat + cn (l.take j) x.toNat := by
          rw [hv, hns _ (by omega), if_neg (by omega)]
        cbv
        refine cal_int hC (s_turn _ _) ⟨⟨trivial, trivial, rfl⟩, ⟨trivial, trivial, rfl⟩, trivial⟩ fun y hy => ?_
        have hy1 : [y, x] = rowC l j := by
          unfold rowC
          rw [← hx, if_pos (by omega), ← hv1, hy]
          simp only [wrapA hA]
        cbv
        (try simp only [ncast] at *)
        refine rwR.put hA (m := 2) [y, x] rfl rfl ⟨by omega, by omega⟩ (by omega) fun cs2 rwR2 => ?_
        cbv
        (try simp only [ncast] at *)
        refine rdA hA (by omega) (by omega) fun v2 hv2 => ?_
        rw [hxt, ← hv] at hv2
        subst hv2
        cbv
        (try simp only [ncast] at *)
        have hcb := cn_bnd x.toNat (l.take j)
        have hfb := fst1_bnd (zs := cvec l) (fun q => cvec_bnd hokk.1 q) x.toNat
        have hpw : (2 : Int) ^ x.toNat ≤ 65536 := by
          have h1 : (2 : Nat) ^ x.toNat ≤ 65536 := Nat.le_trans (Nat.pow_le_pow_right (by decide) (show x.toNat ≤ 16 by omega)) (by decide)
          have e : ((2 ^ x.toNat : Nat) : Int) = (2 : Int) ^ x.toNat := Int.natCast_pow 2 x.toNat
          rw [← e]
          exact Int.ofNat_le.2 h1
        have htl : (l.take j).length ≤ 4096 := by simp; omega
        obtain ⟨v3, hv3⟩ : ∃ v3, v3 = v2 + 1 := ⟨_, rfl⟩
        have hadd : A.bin .add .i64 v2 1 = v3 := by rw [addA hA, wrap64 (by omega), hv3]
        simp only [hadd]
        refine wrA hA (by omega) (by omega) fun ns2 hns2 => ?_
        rw [hxt] at hns2
        cbv
        (try simp only [ncast] at *)
        have hL2 : ns2.length = 17 := by rw [hns2, List.length_set]; exact hnl
        have hP : ∀ q, q ≤ 16 → ns2.getD q 0 = fst1 (cvec l) q + (if q = 0 then 0 else cn (l.take (j + 1)) q) := by
          intro q hq
          rw [hns2, htk, cn_app]
          simp only [List.getD, List.getElem?_set]
          by_cases hqx : x.toNat = q
          · subst hqx
            rw [if_pos rfl, if_pos (by omega), if_neg (by omega), if_pos (by omega)]
            simp only [Option.getD_some]
            omega
          · rw [if_neg hqx]
            have := hns q hq
            simp only [List.getD] at this
            rw [this]
            split
            · rfl
            · rw [if_neg (by omega)]; omega
        have hji2 : i.toNat = j := by omega
        rw [hji2, hy1] at rwR2
        have hQ2 : rs.set j (rowC l j) = rowsTo l (j + 1) := by
          rw [hrs]
          refine List.ext_getElem? fun q => ?_
          simp only [rowsTo, List.getElem?_set, List.getElem?_map, List.length_map, List.length_range]
          by_cases hqj : j = q
          · subst hqj
            rw [if_pos rfl, if_pos hjl, List.getElem?_range hjl]
            simp
          · rw [if_neg hqj]
            rcases Nat.lt_or_ge q l.length with h | h
            · rw [List.getElem?_range h]
              simp only [Option.map_some]
              by_cases h1 : q < j
              · rw [if_pos h1, if_pos (by omega)]
              · rw [if_neg h1, if_neg (by omega)]
            · rw [List.getElem?_eq_none (by simpa using h)]
              rfl
        have e : IntKind.i64.wrap (i + 1) = i + 1 := wrap64 (by omega)
        simp only [addA hA]
        subst hag
        refine ⟨l.length - (j + 1), ⟨[(7, .ptr 1 0), (8, .lst 2 ln), (26, .sl 0 0 ln false), (27, .int .i64 (A.nat ln)), (28, .int .i64 (IntKind.i64.wrap (i + 1)))], [.vw (A.ints .i64 l), .box 97 (A.ints .i64 ns2), .lst 58 2 cs2]⟩, by omega, ?_,
          IntKind.i64.wrap (i + 1), j + 1, ns2, _, cs2, ⟨by omega, by omega, hL2, hP, hQ2⟩, rwR2, rfl, rfl⟩
        subst hA
        exact Sc [0, 1, 2] (by repeat' (first | exact trivial | exact fun _ => rfl | exact fun h => absurd h (by simp) | exact subC_ints rfl | exact subC_rw rwR2 rfl | exact subC_rwv rwR2 rfl rfl | refine And.intro ?_ ?_ | rfl | (simp [subH_nil, hLts, hLt, renCk, renC, sg, Ck.cells, R_ints_ren, R_ints_hLts]; done)))
      · have hz := h
        (try simp only [wA hA] at hz)
        (try rw [h]); clear h
        cbv
        (try simp only [ncast] at *)
        have hx0 : x = 0 := by omega
        have hP : ∀ q, q ≤ 16 → ns.getD q 0 = fst1 (cvec l) q + (if q = 0 then 0 else cn (l.take (j + 1)) q) := by
          intro q hq
          rw [hns q hq, htk, cn_app]
          split
          · rfl
          · rw [if_neg (by omega)]; omega
        have hQ2 : rs = rowsTo l (j + 1) := by
          rw [hrs]
          unfold rowsTo
          refine List.map_congr_left fun q hq => ?_
          by_cases h1 : q < j
          · rw [if_pos h1, if_pos (by omega)]
          · rw [if_neg h1]
            split
            · have : q = j := by omega
              subst this
              unfold rowC
              rw [← hx, if_neg (by omega)]
            · rfl
        have e : IntKind.i64.wrap (i + 1) = i + 1 := wrap64 (by omega)
        simp only [addA hA]
        subst hag
        refine ⟨l.length - (j + 1), ⟨[(7, .ptr 1 0), (8, .lst 2 ln), (26, .sl 0 0 ln false), (27, .int .i64 (A.nat ln)), (28, .int .i64 (IntKind.i64.wrap (i + 1)))], [.vw (A.ints .i64 l), .box 97 (A.ints .i64 ns), .lst 58 2 cs]⟩, by omega, ?_,
          IntKind.i64.wrap (i + 1), j + 1, ns, _, cs, ⟨by omega, by omega, hnl, hP, hQ2⟩, rwR, rfl, rfl⟩
        subst hA
        exact Sc [0, 1, 2] (by repeat' (first | exact trivial | exact fun _ => rfl | exact fun h => absurd h (by simp) | exact subC_ints rfl | exact subC_rw rwR rfl | exact subC_rwv rwR rfl rfl | refine And.intro ?_ ?_ | rfl | (simp [subH_nil, hLts, hLt, renCk, renC, sg, Ck.cells, R_ints_ren, R_ints_hLts]; done)))
    · have hge := h
      (try simp only [wA hA] at hge)
      (try rw [h]); clear h
      cbv
      (try simp only [ncast] at *)
      have hjl : j = l.length := by omega
      have hrc : rs = codesL l := by
        rw [hrs, hjl]
        unfold rowsTo codesL
        refine List.map_congr_left fun q hq => ?_
        rw [if_pos (by simpa using hq)]
      subst hA hq
      refine Fin_of ⟨[(2, .lst 1 ln), (3, .int .i64 0)], [.vw (R.ints .i64 l), .lst 58 2 cs]⟩ ?_ ⟨0, rs, ln, cs, hW, fun _ => hrc, fun h => absurd rfl h, by omega, rwR, rfl, rfl⟩
      exact Sc [0, 2] (by repeat' (first | exact trivial | exact fun _ => rfl | exact fun h => absurd h (by simp) | exact subC_ints rfl | exact subC_rw rwR rfl | exact subC_rwv rwR rfl rfl | refine And.intro ?_ ?_ | rfl | (simp [subH_nil, hLts, hLt, renCk, renC, sg, Ck.cells, R_ints_ren, R_ints_hLts]; done)))
end Go.Sx

/- The reader: Bits. -/
set_option maxRecDepth 100000
set_option maxHeartbeats 4000000
set_option linter.unusedVariables false
set_option linter.unusedSimpArgs false
namespace Go.Sx
open Go.Proofs.Tryd

def BitsQ (xs : List Int) (m p : Nat) (er n : Int) (r : SV) (H : List Ck) : Prop :=
  ∃ (a b p' : Nat) (at_ hold nb er' y : Int), RF xs p' a b at_ hold nb ∧ r = .int .u32 y ∧ H = [.box 70 [.lst 1 m, .int .i64 at_, .int .u64 hold, .int .i64 nb, .int .i64 er', .bool true], .lst 5 1 (R.ints .u8 xs)] ∧
    ((er ≠ 0 ∧ y = 0 ∧ er' = er ∧ p' = p) ∨ (er = 0 ∧ (n < 0 ∨ 32 < n) ∧ y = 0 ∧ er' = 2 ∧ p' = p) ∨ (er = 0 ∧ 0 ≤ n ∧ n ≤ 32 ∧ 8 * (xs.length : Int) < p + n ∧ y = 0 ∧ er' = 3 ∧ p' = p) ∨
      (er = 0 ∧ 0 ≤ n ∧ n ≤ 32 ∧ p + n ≤ 8 * (xs.length : Int) ∧ y = cut (V xs) p n.toNat ∧ er' = 0 ∧ p' = p + n.toNat))

theorem s_bits (xs : List Int) (m p a b : Nat) (hx : RX xs m) (at_ hold nb er n : Int) (hF : RF xs p a b at_ hold nb) :
    Spec prog 27 [.ptr 0 0, .int .i64 n] [.box 70 [.lst 1 m, .int .i64 at_, .int .u64 hold, .int .i64 nb, .int .i64 er, .bool true], .lst 5 1 (R.ints .u8 xs)] (BitsQ xs m p er n) := by
  refine Spec_of_xX (D := fun i => if i = 10 then (7, []) else (0, [])) (ks := [0, 1, 4, 5]) tok mixed (fn := f27) rfl rfl rfl (by kernel_rfl) (N := 40) rfl (rs := [.tmp 4]) rfl (by show 2 ≤ 40; omega) fun A C ag L q hA hC hag hL hq => ?_
  rw [← hA]
  cbv
  refine cal_vw hC (s_err m at_ hold nb er) [(0, 0, false), (1, 0, false)] rfl ?_ ⟨⟨(show 0 < 2 by omega), trivial, rfl⟩, trivial⟩ rfl ?_
  · exact ⟨⟨(show 1 < 2 by omega), trivial, trivial, trivial, trivial, trivial, trivial⟩, ⟨rfl, trivial, trivial, trivial, trivial, trivial, trivial⟩, rfl, trivial, trivial, rfl, trivial⟩
  cbv
  refine ifB_intro (fun h => ?_) (fun h => ?_)
  · cbv
    subst hA hq
    have h : er ≠ 0 := by
      have h : (er != 0) = true := h
      simpa using h
    exact ⟨a, b, p, at_, hold, nb, er, 0, hF, rfl, rfl, .inl ⟨h, rfl, rfl, rfl⟩⟩
  have her : er = 0 := by
    subst hA
    have h : (er != 0) = false := h
    simpa using h
  subst her
  cbv
  refine cal_bool hC (s_right n) ⟨⟨trivial, trivial, rfl⟩, trivial⟩ fun y hy => ?_
  cbv
  refine ifB_intro (fun h' => ?_) (fun h' => ?_)
  · cbv
    subst hA hq
    have h' : (!y) = true := h'
    rw [hy] at h'
    refine ⟨a, b, p, at_, hold, nb, 2, 0, hF, rfl, rfl, .inr (.inl ⟨rfl, ?_, rfl, rfl, rfl⟩)⟩
    simp at h'
    omega
  have hn : 0 ≤ n ∧ n ≤ 32 := by
    subst hA
    have h' : (!y) = false := h'
    rw [hy] at h'
    simpa using h'
  clear hy h' h
  cbv
  have hS := s_fill xs m p a b hx at_ hold nb 0 n hn.2 hF
  rw [← hA] at hS
  refine cal_of hC hS [(0, 0, true), (1, 0, true)] ⟨by simp, by simp, trivial⟩ (matchH2 hA ⟨(show 1 < 2 by omega), trivial, trivial, trivial, trivial, trivial, trivial⟩ ⟨rfl, trivial, trivial, trivial, trivial, trivial, trivial⟩ rfl rfl rfl) ⟨⟨(show 0 < 2 by omega), trivial, rfl⟩, ⟨trivial, trivial, rfl⟩, trivial⟩ ?_
  rintro _ _ ⟨rfl, a, b, at_, hold, nb, hF, hfull, rfl⟩
  refine ⟨_, _, _, rfl, rfl, backH2 hA rfl, ?_⟩
  cbv
  refine ifB_intro (fun h => ?_) (fun h => ?_)
  · cbv
    subst hA hq
    have h : nb < n := of_decide_eq_true h
    refine ⟨a, b, p, at_, hold, nb, 3, 0, hF, rfl, rfl, .inr (.inr (.inl ⟨rfl, hn.1, hn.2, ?_, rfl, rfl, rfl⟩))⟩
    obtain ⟨h1, h2, h3, h4, h5, h6⟩ := hF
    obtain ⟨-, hm, -⟩ := hx
    omega
  have hnb : n ≤ nb := by
    subst hA
    have h : ¬ nb < n := of_decide_eq_false h
    omega
  clear h hfull hS
  cbv
  refine ⟨by subst hA; exact hn.1, ?_⟩
  have hS := s_drop m xs at_ hold nb 0 n hn.1
  rw [← hA] at hS
  refine cal_of hC hS [(0, 0, true), (1, 0, true)] ⟨by simp, by simp, trivial⟩ (matchH2 hA ⟨(show 1 < 2 by omega), trivial, trivial, trivial, trivial, trivial, trivial⟩ ⟨rfl, trivial, trivial, trivial, trivial, trivial, trivial⟩ rfl rfl rfl) ⟨⟨(show 0 < 2 by omega), trivial, rfl⟩, ⟨trivial, trivial, rfl⟩, trivial⟩ ?_
  rintro _ _ ⟨rfl, rfl⟩
  refine ⟨_, _, _, rfl, rfl, backH2 hA rfl, ?_⟩
  obtain ⟨u, hu⟩ : ∃ u, u = shrI .u64 hold n := ⟨_, rfl⟩
  obtain ⟨v, hv⟩ : ∃ v, v = IntKind.i64.wrap (nb - n) := ⟨_, rfl⟩
  rw [← hu, ← hv]
  cbv
  subst hA hq
  obtain ⟨h1, h2, h3, h4, h5, h6⟩ := hF
  obtain ⟨hb, hm, hl⟩ := hx
  obtain ⟨k, rfl⟩ : ∃ k : Nat, n = k := ⟨n.toNat, by omega⟩
  have hkb : k ≤ b := by omega
  have hc0 := cut_nonneg (V_bnd hb).1 p b
  have hc1 := cut_lt (V xs) p b
  have hq : (2 : Int) ^ b ≤ 2 ^ 39 := by exact_mod_cast Nat.pow_le_pow_right (by decide) h5
  have hq39 : (2 : Int) ^ 39 = 549755813888 := by decide
  have hqk : (2 : Int) ^ k ≤ 2 ^ 32 := by exact_mod_cast Nat.pow_le_pow_right (by decide) (by omega)
  have hq32 : (2 : Int) ^ 32 = 4294967296 := by decide
  refine ⟨a, b - k, p + k, at_, u, v, 0, _, ⟨h1, ?_, by omega, h4, by omega, ?_⟩, rfl, rfl, .inr (.inr (.inr ⟨rfl, hn.1, hn.2, by omega, ?_, rfl, by omega⟩))⟩
  · rw [hv, wrap64 (by omega)]; omega
  · rw [hu, shr64 (by omega), h6, cut_drop _ _ _ _ hkb]
  · show IntKind.u32.wrap (band .u64 hold (IntKind.u64.wrap (shlI .u64 1 k - 1))) = _
    rw [mask64 (by omega) (by omega) (by omega), h6, cut_cut _ _ _ _ hkb]
    have := cut_nonneg (V_bnd hb).1 p k
    have := cut_lt (V xs) p k
    rw [wrapu32 (by omega), Int.toNat_natCast]
end Go.Sx

/- Open, and that any bit is read at all. -/
set_option maxRecDepth 100000
set_option maxHeartbeats 4000000
set_option linter.unusedVariables false
set_option linter.unusedSimpArgs false
namespace Go.Sx
open Go.Proofs.Tryd

theorem s_clone (xs : List Int) (m : Nat) (hm : m = xs.length) (hl : xs.length ≤ 1000000000000) : Spec prog 32 [.sl 0 0 m false] [.vw (R.ints .u8 xs)]
    (fun r H => r = .lst 2 m ∧ H = [.vw (R.ints .u8 xs), .gone, .lst 5 1 (R.ints .u8 xs)]) := by
  refine Spec.of_nil2 5 1 ?_
  refine Spec_of_xX (D := fun i => (0, [])) (ks := [0, 2]) tok mixed (fn := f32) rfl rfl rfl (by kernel_rfl) (N := 8) rfl (rs := [.tmp 2]) rfl (by show 1 ≤ 8; omega) fun A C ag L q hA hC hag hL hq => ?_
  rw [← hA]
  cbv
  have hsub := subA hA (k := .u8) (xs := xs) (o := 0) (n := m) (by omega)
  obtain ⟨ys, hys⟩ : ∃ ys, ys = (xs.drop 0).take m := ⟨_, rfl⟩
  rw [← hys] at hsub
  have main : A.len [] 0 1 ∧ A.fit (A.add 0 m) 1 ∧ q (.lst 2 (A.add 0 m)) [.vw (A.ints .u8 xs), .gone, .lst 5 1 (A.ints .u8 ys)] := by
    subst hA hq
    refine ⟨rfl, ?_, .inl ⟨?_, ?_⟩⟩
    · show (0 + m) * 1 ≤ room
      unfold room; omega
    · show SV.lst 2 (0 + m) = _
      rw [Nat.zero_add]
    · rw [hys, List.drop_zero, hm, List.take_length]
  refine ifB_intro (fun h => ?_) (fun h => ?_)
  · cbv
    refine bindO_some hsub (guardB_true (scA hA ..) ?_)
    cbv
    exact main
  · refine ⟨?_, ?_⟩
    · cbv
      refine bindO_some hsub (guardB_true (scA hA ..) ?_)
      cbv
      exact main
    · cbv
      subst hA hq
      have h : ¬ 0 < m := of_decide_eq_false h
      have h0 : m = 0 := by omega
      have hx : xs = [] := List.eq_nil_of_length_eq_zero (by omega)
      subst hx h0
      exact .inr ⟨rfl, rfl, rfl⟩

theorem s_open (xs : List Int) (m : Nat) (hx : RX xs m) : Spec prog 10 [.sl 0 0 m false] [.vw (R.ints .u8 xs)]
    (fun r H => r = .ptr 3 0 ∧ H = [.vw (R.ints .u8 xs), .gone, .lst 5 1 (R.ints .u8 xs), .box 70 [.lst 2 m, .int .i64 0, .int .u64 0, .int .i64 0, .int .i64 0, .bool true]]) := by
  refine Spec_of_xX (D := fun i => (0, [])) (ks := [0, 2]) tok mixed (fn := f10) rfl rfl rfl (by kernel_rfl) (N := 7) rfl (rs := [.tmp 2]) rfl (by show 1 ≤ 7; omega) fun A C ag L q hA hC hag hL hq => ?_
  have hS := s_clone xs m hx.2.1 hx.2.2
  rw [← hA] at hS ⊢
  cbv
  refine cal_of hC hS [(0, 0, false)] ⟨by simp, trivial⟩ ⟨hLtsA hA .., zOksA hA .., ?_, trivial⟩ ⟨⟨(show 0 < 1 by omega), rfl, rfl, rfl⟩, trivial⟩ ?_
  · rw [renA hA, cellsAt_eq rfl (by simp [Ck.cells])]
    simp [Ck.cells]
  rintro _ _ ⟨rfl, rfl⟩
  refine ⟨_, _, [.vw (A.ints .u8 xs), .gone, .lst 5 1 (A.ints .u8 xs)], rfl, rfl, ?_, ?_⟩
  · simp only [backH, List.map_cons, List.map_nil, renCk, renA hA]
    rfl
  cbv
  subst hA hq
  exact ⟨rfl, rfl⟩
end Go.Sx

/- Bits in the other order: the plain law. -/
set_option linter.unusedVariables false
namespace Go.Sx

theorem band32 {a b : Nat} (ha : a < 2 ^ 32) (hb : b < 2 ^ 32) : band .u32 (a : Int) (b : Int) = ((a &&& b : Nat) : Int) :=
  (bits_nat .u32 32 (Nat.le_refl _) (fun n h0 h1 => wrapu32 ⟨h0, h1⟩) a b ha hb).1
theorem bor32 {a b : Nat} (ha : a < 2 ^ 32) (hb : b < 2 ^ 32) : bor .u32 (a : Int) (b : Int) = ((a ||| b : Nat) : Int) :=
  (bits_nat .u32 32 (Nat.le_refl _) (fun n h0 h1 => wrapu32 ⟨h0, h1⟩) a b ha hb).2
theorem shl32 (a n : Nat) (hn : n ≤ 32) : shlI .u32 (a : Int) (n : Int) = (((a <<< n) % 2 ^ 32 : Nat) : Int) := by
  unfold shlI
  rw [show min (n : Int).toNat IntKind.u32.bits = n by show min n 32 = n; omega, Go.IntKind.wrap_u32, Nat.shiftLeft_eq, Int.natCast_emod, Int.natCast_mul, Int.natCast_pow]
  rfl
theorem shr32 (a n : Nat) (hn : n ≤ 32) : shrI .u32 (a : Int) (n : Int) = ((a >>> n : Nat) : Int) := by
  unfold shrI
  rw [show min (n : Int).toNat IntKind.u32.bits = n by show min n 32 = n; omega, Nat.shiftRight_eq_div_pow]
  rw [Int.fdiv_eq_ediv_of_nonneg _ (Int.le_of_lt (pow_pos2 n)), Int.natCast_ediv, Int.natCast_pow]
  rfl

/-- One step of the turn, on natural numbers. -/
def stepN (x k m : Nat) : Nat := (x >>> k &&& m) ||| ((x &&& m) <<< k) % 2 ^ 32
theorem stepN_lt (x k m : Nat) (hm : m < 2 ^ 32) : stepN x k m < 2 ^ 32 := Nat.or_lt_two_pow (Nat.and_lt_two_pow _ hm) (Nat.mod_lt _ (by decide))
theorem step_eq (x k m : Nat) (hx : x < 2 ^ 32) (hk : k ≤ 32) (hm : m < 2 ^ 32) :
    bor .u32 (band .u32 (shrI .u32 (x : Int) (k : Int)) (m : Int)) (shlI .u32 (band .u32 (x : Int) (m : Int)) (k : Int)) = ((stepN x k m : Nat) : Int) := by
  have h1 : x >>> k < 2 ^ 32 := by
    rw [Nat.shiftRight_eq_div_pow]; exact Nat.lt_of_le_of_lt (Nat.div_le_self _ _) hx
  rw [shr32 _ _ hk, band32 h1 hm, band32 hx hm, shl32 _ _ hk, bor32 (Nat.and_lt_two_pow _ hm) (Nat.mod_lt _ (by decide))]
  rfl

def rvN (x : Nat) : Nat :=
  let y := stepN (stepN (stepN (stepN x 1 1431655765) 2 858993459) 4 252645135) 8 16711935
  (y >>> 16) ||| (y <<< 16) % 2 ^ 32

theorem rv_eq (x : Nat) (hx : x < 2 ^ 32) : rv (x : Int) = ((rvN x : Nat) : Int) := by
  have st : ∀ (x k m : Nat) (k' m' : Int), (k : Int) = k' → (m : Int) = m' → x < 2 ^ 32 → k ≤ 32 → m < 2 ^ 32 → bor .u32 (band .u32 (shrI .u32 (x : Int) k') m') (shlI .u32 (band .u32 (x : Int) m') k') = ((stepN x k m : Nat) : Int) := by
    intro x k m k' m' hk hm h1 h2 h3; subst hk hm; exact step_eq x k m h1 h2 h3
  unfold rv rby rvN
  have l1 := stepN_lt x 1 1431655765 (by decide)
  have l2 := stepN_lt (stepN x 1 1431655765) 2 858993459 (by decide)
  have l3 := stepN_lt (stepN (stepN x 1 1431655765) 2 858993459) 4 252645135 (by decide)
  have l4 := stepN_lt (stepN (stepN (stepN x 1 1431655765) 2 858993459) 4 252645135) 8 16711935 (by decide)
  simp only []
  rw [st x 1 1431655765 1 1431655765 rfl rfl hx (by decide) (by decide), st _ 2 858993459 2 858993459 rfl rfl l1 (by decide) (by decide),
    st _ 4 252645135 4 252645135 rfl rfl l2 (by decide) (by decide), st _ 8 16711935 8 16711935 rfl rfl l3 (by decide) (by decide)]
  generalize stepN (stepN (stepN (stepN x 1 1431655765) 2 858993459) 4 252645135) 8 16711935 = y at l4 ⊢
  have h1 : y >>> 16 < 2 ^ 32 := by
    rw [Nat.shiftRight_eq_div_pow]; exact Nat.lt_of_le_of_lt (Nat.div_le_self _ _) l4
  have s1 : shrI .u32 (y : Int) 16 = _ := shr32 y 16 (by decide)
  have s2 : shlI .u32 (y : Int) 16 = _ := shl32 y 16 (by decide)
  rw [s1, s2, bor32 h1 (Nat.mod_lt _ (by decide))]

theorem stepN_bit (x k m i : Nat) (hi : i < 32) (tab : (m.testBit i = true ∧ i ^^^ k = k + i ∧ (k ≤ i → m.testBit (i - k) = false)) ∨ (m.testBit i = false ∧ k ≤ i ∧ m.testBit (i - k) = true ∧ i ^^^ k = i - k)) : (stepN x k m).testBit i = x.testBit (i ^^^ k) := by
  unfold stepN
  rw [Nat.testBit_or, Nat.testBit_and, Nat.testBit_shiftRight, Nat.testBit_mod_two_pow, Nat.testBit_shiftLeft, Nat.testBit_and]
  rcases tab with ⟨h1, h2, h3⟩ | ⟨h1, h2, h3, h4⟩
  · rw [h1, h2]
    by_cases hk : k ≤ i
    · simp [hi, hk, h3 hk]
    · simp [hi, hk]
  · rw [h1, h3, h4]; simp [hi, h2]

theorem rvN_bit (x i : Nat) (hx : x < 2 ^ 32) : (rvN x).testBit i = (decide (i < 32) && x.testBit (31 - i)) := by
  have l4 := stepN_lt (stepN (stepN (stepN x 1 1431655765) 2 858993459) 4 252645135) 8 16711935 (by decide)
  have t1 : ∀ i : Fin 32, ((1431655765).testBit i.1 = true ∧ i.1 ^^^ 1 = 1 + i.1 ∧ (1 ≤ i.1 → (1431655765).testBit (i.1 - 1) = false)) ∨ ((1431655765).testBit i.1 = false ∧ 1 ≤ i.1 ∧ (1431655765).testBit (i.1 - 1) = true ∧ i.1 ^^^ 1 = i.1 - 1) := by decide
  have t2 : ∀ i : Fin 32, ((858993459).testBit i.1 = true ∧ i.1 ^^^ 2 = 2 + i.1 ∧ (2 ≤ i.1 → (858993459).testBit (i.1 - 2) = false)) ∨ ((858993459).testBit i.1 = false ∧ 2 ≤ i.1 ∧ (858993459).testBit (i.1 - 2) = true ∧ i.1 ^^^ 2 = i.1 - 2) := by decide
  have t4 : ∀ i : Fin 32, ((252645135).testBit i.1 = true ∧ i.1 ^^^ 4 = 4 + i.1 ∧ (4 ≤ i.1 → (252645135).testBit (i.1 - 4) = false)) ∨ ((252645135).testBit i.1 = false ∧ 4 ≤ i.1 ∧ (252645135).testBit (i.1 - 4) = true ∧ i.1 ^^^ 4 = i.1 - 4) := by decide
  have t8 : ∀ i : Fin 32, ((16711935).testBit i.1 = true ∧ i.1 ^^^ 8 = 8 + i.1 ∧ (8 ≤ i.1 → (16711935).testBit (i.1 - 8) = false)) ∨ ((16711935).testBit i.1 = false ∧ 8 ≤ i.1 ∧ (16711935).testBit (i.1 - 8) = true ∧ i.1 ^^^ 8 = i.1 - 8) := by decide
  have t16 : ∀ i : Fin 32, ((((i.1 + 16) % 32 ^^^ 8) ^^^ 4) ^^^ 2) ^^^ 1 = 31 - i.1 ∧ (i.1 + 16) % 32 < 32 ∧ ((i.1 + 16) % 32 ^^^ 8) < 32 ∧ (((i.1 + 16) % 32 ^^^ 8) ^^^ 4) < 32 ∧ ((((i.1 + 16) % 32 ^^^ 8) ^^^ 4) ^^^ 2) < 32 := by decide
  unfold rvN
  simp only []
  rw [Nat.testBit_or, Nat.testBit_shiftRight, Nat.testBit_mod_two_pow, Nat.testBit_shiftLeft]
  by_cases hi : i < 32
  · obtain ⟨e, b0, b8, b4, b2⟩ := t16 ⟨i, hi⟩
    simp only [] at e b0 b8 b4 b2
    have h : ∀ y : Nat, y < 2 ^ 32 → (y.testBit (16 + i) || (decide (i < 32) && (decide (i ≥ 16) && y.testBit (i - 16)))) = y.testBit ((i + 16) % 32) := by
      intro y hy
      by_cases h16 : 16 ≤ i
      · have : y.testBit (16 + i) = false := Nat.testBit_lt_two_pow (Nat.lt_of_lt_of_le hy (Nat.pow_le_pow_right (by decide) (by omega)))
        rw [this, show (i + 16) % 32 = i - 16 by omega]; simp [hi, h16]
      · rw [show (i + 16) % 32 = 16 + i by omega]; simp [h16]
    rw [h _ l4, stepN_bit _ _ _ _ b0 (t8 ⟨_, b0⟩), stepN_bit _ _ _ _ b8 (t4 ⟨_, b8⟩), stepN_bit _ _ _ _ b4 (t2 ⟨_, b4⟩), stepN_bit _ _ _ _ b2 (t1 ⟨_, b2⟩), e]
    simp [hi]
  · rw [Nat.testBit_lt_two_pow (Nat.lt_of_lt_of_le l4 (Nat.pow_le_pow_right (by decide) (by omega)))]
    simp [hi]

/-- What Turn answers. -/
theorem tn_eq (x : Nat) (n : Int) (hx : x < 2 ^ 32) : tn (x : Int) n = ((rvN x >>> (32 - min n.toNat 32) : Nat) : Int) := by
  have l : rvN x < 2 ^ 32 := Nat.lt_pow_two_of_testBit _ fun i hi => by rw [rvN_bit x i hx]; simp; omega
  unfold tn
  rw [rv_eq x hx, wrapu64 (by omega)]
  have e : IntKind.i64.wrap (32 - (if 32 < (if n < 0 then 0 else n) then 32 else (if n < 0 then 0 else n))) = ((32 - min n.toNat 32 : Nat) : Int) := by
    rw [wrap64 (by split <;> split <;> omega)]
    split <;> split <;> omega
  rw [e, shr64 (by omega), Nat.shiftRight_eq_div_pow, Int.natCast_ediv, Int.natCast_pow]
  have h0 : ((rvN x / 2 ^ (32 - min n.toNat 32) : Nat) : Int) < 4294967296 := by
    have := Nat.div_le_self (rvN x) (2 ^ (32 - min n.toNat 32))
    omega
  rw [Int.natCast_ediv, Int.natCast_pow] at h0
  exact wrapu32 ⟨Int.ediv_nonneg (by omega) (Int.le_of_lt (pow_pos2 _)), h0⟩

theorem tnN_bit (x k i : Nat) (hx : x < 2 ^ 32) (hk : k ≤ 32) : (rvN x >>> (32 - k)).testBit i = (decide (i < k) && x.testBit (k - 1 - i)) := by
  rw [Nat.testBit_shiftRight, rvN_bit x _ hx]
  by_cases hi : i < k
  · rw [show 31 - (32 - k + i) = k - 1 - i by omega]; simp [hi, show 32 - k + i < 32 by omega]
  · simp [hi, show ¬ 32 - k + i < 32 by omega]

/-- What the document's turn holds, on natural numbers. -/
def TN (x : Nat) : Nat → Nat
  | 0 => 0
  | i + 1 => TN x i * 2 + x / 2 ^ i % 2
theorem TN_lt (x : Nat) : ∀ i, TN x i < 2 ^ i
  | 0 => by simp [TN]
  | i + 1 => by
    have := TN_lt x i
    simp only [TN, Nat.pow_succ]
    omega
theorem T_eq (x : Nat) : ∀ i, i ≤ 32 → T (x : Int) i = ((TN x i : Nat) : Int)
  | 0, _ => rfl
  | i + 1, h => by
    have hl := TN_lt x (i + 1)
    have hp : (2 : Nat) ^ (i + 1) ≤ 2 ^ 32 := Nat.pow_le_pow_right (by decide) h
    simp only [TN] at hl ⊢
    simp only [T]
    rw [T_eq x i (by omega)]
    have e : ((x : Int) / 2 ^ i).tmod 2 = ((x / 2 ^ i % 2 : Nat) : Int) := by
      have : ((x : Int) / 2 ^ i) = ((x / 2 ^ i : Nat) : Int) := by rw [Int.natCast_ediv, Int.natCast_pow]; rfl
      rw [this]
      rfl
    rw [e, wrapu32 (n := ((TN x i : Nat) : Int) * 2) (by omega), wrapu32 (by omega)]
    rfl
theorem TN_bit (x : Nat) : ∀ k i, (TN x k).testBit i = (decide (i < k) && x.testBit (k - 1 - i))
  | 0, i => by simp [TN]
  | k + 1, 0 => by
    simp only [TN]
    rw [Nat.testBit_zero, show k + 1 - 1 - 0 = k by omega, Nat.testBit_eq_decide_div_mod_eq]
    simp
  | k + 1, i + 1 => by
    simp only [TN]
    rw [Nat.testBit_succ, show (TN x k * 2 + x / 2 ^ k % 2) / 2 = TN x k by omega, TN_bit x k i, show k + 1 - 1 - (i + 1) = k - 1 - i by omega]
    simp

theorem turn_ref (x : Nat) (n : Int) (hx : x < 2 ^ 32) : tn (x : Int) n = T (x : Int) (min n.toNat 32) := by
  rw [tn_eq x n hx, T_eq x _ (by omega)]
  congr 1
  apply Nat.eq_of_testBit_eq
  intro i
  rw [tnN_bit x _ i hx (by omega), TN_bit]

end Go.Sx

/- canon: words, the plain law: where a word stands, no other one does. -/
set_option maxRecDepth 100000
set_option linter.unusedVariables false
set_option linter.unusedSimpArgs false
namespace Go.Sx

/-- The number of a symbol's word, its first bit highest. -/
def cwI (l : List Int) (s : Nat) : Int := fst1 (cvec l) (l.getD s 0).toNat + cn (l.take s) (l.getD s 0).toNat
def cw (l : List Int) (s : Nat) : Nat := (cwI l s).toNat
/-- What is said of lengths that have words. -/
def Lens (l : List Int) : Prop := okL l ∧ wg (cvec l) 17 ≤ 65536

theorem Lens.len {l : List Int} (h : Lens l) : l.length ≤ 4096 := h.1.1
theorem Lens.at {l : List Int} (h : Lens l) (s : Nat) : 0 ≤ l.getD s 0 ∧ l.getD s 0 ≤ 16 := by
  rcases Nat.lt_or_ge s l.length with hs | hs
  · exact h.1.2 _ (by simp [List.getD, hs])
  · simp [List.getD, List.getElem?_eq_none hs]
theorem Lens.vec {l : List Int} (h : Lens l) (q : Nat) : 0 ≤ (cvec l).getD q 0 ∧ (cvec l).getD q 0 ≤ 4096 := cvec_bnd h.1.1 q
theorem cvec_at (l : List Int) (q : Nat) (h0 : 0 < q) (h1 : q ≤ 16) : (cvec l).getD q 0 = cn l q := by
  unfold cvec
  simp only [List.getD, List.getElem?_map]
  rw [List.getElem?_range (by omega)]
  simp only [Option.map_some, Option.getD_some]
  rw [if_neg (by omega)]
theorem cvec_zero (l : List Int) : (cvec l).getD 0 0 = 0 := rfl
theorem cn_take (l : List Int) (x : Nat) : ∀ (s : Nat), s < l.length → cn (l.take (s + 1)) x = cn (l.take s) x + (if l.getD s 0 = (x : Int) then 1 else 0) := by
  intro s hs
  have : l.take (s + 1) = l.take s ++ [l.getD s 0] := by rw [List.take_add_one]; simp [List.getD, hs]
  rw [this, cn_app]
theorem cn_mono (l : List Int) (x : Nat) : ∀ (t s : Nat), s ≤ t → t ≤ l.length → cn (l.take s) x ≤ cn (l.take t) x
  | 0, s, h, _ => by rw [show s = 0 by omega]; exact Int.le_refl _
  | t + 1, s, h, ht => by
    rcases Nat.lt_or_ge t s with h1 | h1
    · rw [show s = t + 1 by omega]; exact Int.le_refl _
    · have := cn_mono l x t s h1 (by omega)
      rw [cn_take l x t (by omega)]
      split <;> omega
theorem cn_lt (l : List Int) (s t : Nat) (h : s < t) (ht : t ≤ l.length) (x : Nat) (hx : l.getD s 0 = (x : Int)) : cn (l.take s) x < cn (l.take t) x := by
  have h1 := cn_mono l x t (s + 1) h ht
  rw [cn_take l x s (by omega), if_pos hx] at h1
  omega
theorem cn_ge0 (l : List Int) (x : Nat) : 0 ≤ cn l x := (cn_bnd x l).1
theorem cn_ltl (l : List Int) (s : Nat) (h : s < l.length) (x : Nat) (hx : l.getD s 0 = (x : Int)) : cn (l.take s) x < cn l x := by
  have := cn_lt l s l.length h (Nat.le_refl _) x hx
  rwa [List.take_length] at this

theorem fst_wg {zs : List Int} : ∀ x, x ≤ 16 → fst1 zs x * 2 ^ (16 - x) = wg zs x
  | 0, _ => by simp [fst1, wg]
  | x + 1, h => by
    have ih := fst_wg (zs := zs) x (by omega)
    have e : (2 : Int) ^ (16 - x) = 2 * 2 ^ (16 - (x + 1)) := by
      rw [show 16 - x = (16 - (x + 1)) + 1 by omega, Int.pow_succ, Int.mul_comm]
    simp only [fst1, wg]
    rw [← ih, e, ← Int.add_mul]
    generalize (2 : Int) ^ (16 - (x + 1)) = p
    rw [Int.mul_comm 2 (fst1 zs x + _), Int.mul_assoc]
theorem wg_mono {zs : List Int} (h : ∀ q, 0 ≤ zs.getD q 0) : ∀ (b a : Nat), a ≤ b → wg zs a ≤ wg zs b
  | 0, a, hab => by rw [show a = 0 by omega]; exact Int.le_refl _
  | b + 1, a, hab => by
    rcases Nat.lt_or_ge b a with h1 | h1
    · rw [show a = b + 1 by omega]; exact Int.le_refl _
    · have := wg_mono h b a h1
      have h2 : 0 ≤ zs.getD b 0 * 2 ^ (16 - b) := Int.mul_nonneg (h b) (Int.le_of_lt (pow_pos2 _))
      simp only [wg]; omega
theorem fst_ge0 {zs : List Int} (h : ∀ q, 0 ≤ zs.getD q 0) : ∀ x, 0 ≤ fst1 zs x
  | 0 => by simp [fst1]
  | x + 1 => by
    have := fst_ge0 h x
    have := h x
    simp only [fst1]; omega
/-- All words of a length have room. -/
theorem fst_room {l : List Int} (h : Lens l) (x : Nat) (hx : x ≤ 16) : fst1 (cvec l) x + (cvec l).getD x 0 ≤ 2 ^ x := by
  have h1 := fst_wg (zs := cvec l) x hx
  have h2 := wg_mono (zs := cvec l) (fun q => (h.vec q).1) 17 (x + 1) (by omega)
  have h3 : (fst1 (cvec l) x + (cvec l).getD x 0) * 2 ^ (16 - x) ≤ 2 ^ x * 2 ^ (16 - x) := by
    rw [Int.add_mul, h1]
    have e : (2 : Int) ^ x * 2 ^ (16 - x) = 65536 := by rw [← Int.pow_add, show x + (16 - x) = 16 by omega]; decide
    rw [e]
    simp only [wg] at h2
    have := h.2
    simp only [wg] at this
    omega
  exact Int.le_of_mul_le_mul_right h3 (pow_pos2 _)

theorem cw_eq {l : List Int} (h : Lens l) (s : Nat) : (cw l s : Int) = cwI l s := by
  have h1 := fst_ge0 (zs := cvec l) (fun q => (h.vec q).1) (l.getD s 0).toNat
  have h2 := cn_ge0 (l.take s) (l.getD s 0).toNat
  unfold cw cwI at *
  omega
theorem cw_room {l : List Int} (h : Lens l) {s : Nat} (hs : s < l.length) (h0 : 0 < l.getD s 0) : cwI l s < fst1 (cvec l) (l.getD s 0).toNat + (cvec l).getD (l.getD s 0).toNat 0 := by
  have h1 := h.at s
  have h2 := cn_ltl l s hs (l.getD s 0).toNat (by omega)
  rw [cvec_at l _ (by omega) (by omega)]
  unfold cwI; omega
theorem cw_lt {l : List Int} (h : Lens l) {s : Nat} (hs : s < l.length) (h0 : 0 < l.getD s 0) : cw l s < 2 ^ (l.getD s 0).toNat := by
  have h1 := h.at s
  have h2 := cw_room h hs h0
  have h3 := fst_room h (l.getD s 0).toNat (by omega)
  have h4 := cw_eq h s
  have h5 : ((2 ^ (l.getD s 0).toNat : Nat) : Int) = (2 : Int) ^ (l.getD s 0).toNat := Int.natCast_pow 2 _
  omega

/-- The first numbers of longer words lie behind. -/
theorem fst_next {l : List Int} (h : Lens l) (x : Nat) : ∀ d, fst1 (cvec l) (x + (d + 1)) ≥ 2 ^ (d + 1) * (fst1 (cvec l) x + (cvec l).getD x 0)
  | 0 => by rw [Int.pow_succ, Int.pow_zero, Int.one_mul]; exact Int.le_refl _
  | d + 1 => by
    have ih := fst_next h x d
    have hz := (h.vec (x + (d + 1))).1
    have e : fst1 (cvec l) (x + (d + 1 + 1)) = 2 * (fst1 (cvec l) (x + (d + 1)) + (cvec l).getD (x + (d + 1)) 0) := rfl
    rw [e, Int.pow_succ, Int.mul_comm _ 2, Int.mul_assoc]
    omega

/-- No word begins another. -/
theorem cw_free {l : List Int} (h : Lens l) {s t : Nat} (hs : s < l.length) (ht : t < l.length) (hs0 : 0 < l.getD s 0) (hle : l.getD s 0 ≤ l.getD t 0)
    (he : cw l t / 2 ^ ((l.getD t 0).toNat - (l.getD s 0).toNat) = cw l s) : s = t := by
  have h1 := h.at s
  have h2 := h.at t
  have c1 := cw_eq h s
  have c2 := cw_eq h t
  obtain ⟨x, hx⟩ : ∃ x : Nat, l.getD s 0 = (x : Int) := ⟨(l.getD s 0).toNat, by omega⟩
  obtain ⟨y, hy⟩ : ∃ y : Nat, l.getD t 0 = (y : Int) := ⟨(l.getD t 0).toNat, by omega⟩
  have r1 := cw_room h hs hs0
  unfold cwI at c1 c2 r1
  rw [hx] at c1 r1 he
  rw [hy] at c2 he
  simp only [Int.toNat_natCast] at c1 c2 r1 he
  rw [hx, hy] at hle
  rcases Nat.lt_or_ge x y with hxy | hxy
  · exfalso
    obtain ⟨d, rfl⟩ : ∃ d, y = x + (d + 1) := ⟨y - x - 1, by omega⟩
    have h3 := fst_next h x d
    have h4 := cn_ge0 (l.take t) (x + (d + 1))
    rw [show x + (d + 1) - x = d + 1 by omega] at he
    have hp : 0 < 2 ^ (d + 1) := Nat.pow_pos (by decide)
    have h5 : cw l t < 2 ^ (d + 1) * (cw l s + 1) := by rw [← he]; exact Nat.lt_mul_div_succ _ hp
    have h6 : (cw l t : Int) < 2 ^ (d + 1) * ((cw l s : Int) + 1) := by
      have : ((cw l t : Nat) : Int) < ((2 ^ (d + 1) * (cw l s + 1) : Nat) : Int) := Int.ofNat_lt.2 h5
      rw [Int.natCast_mul, Int.natCast_pow] at this
      exact this
    have h7 : (2 : Int) ^ (d + 1) * ((cw l s : Int) + 1) ≤ 2 ^ (d + 1) * (fst1 (cvec l) x + (cvec l).getD x 0) := Int.mul_le_mul_of_nonneg_left (by omega) (Int.le_of_lt (pow_pos2 _))
    omega
  · have hxe : x = y := by omega
    subst hxe
    rw [Nat.sub_self, Nat.pow_zero, Nat.div_one] at he
    rcases Nat.lt_trichotomy s t with h3 | h3 | h3
    · have := cn_lt l s t h3 (by omega) x hx
      omega
    · exact h3
    · have := cn_lt l t s h3 (by omega) x hy
      omega

/-! ### Bits, first ones first -/
theorem TN_mod (x k : Nat) : ∀ i, i ≤ k → TN (x % 2 ^ k) i = TN x i := by
  intro i hi
  apply Nat.eq_of_testBit_eq
  intro q
  rw [TN_bit, TN_bit, Nat.testBit_mod_two_pow]
  by_cases hq : q < i
  · simp [hq, show i - 1 - q < k by omega]
  · simp [hq]
theorem TN_TN (x k : Nat) : TN (TN x k) k = x % 2 ^ k := by
  apply Nat.eq_of_testBit_eq
  intro q
  rw [TN_bit, TN_bit, Nat.testBit_mod_two_pow]
  by_cases hq : q < k
  · simp [hq, show k - 1 - q < k by omega, show k - 1 - (k - 1 - q) = q by omega]
  · simp [hq]
/-- The bits stand there: either way. -/
theorem TN_iff (b c k : Nat) (hc : c < 2 ^ k) : b % 2 ^ k = TN c k ↔ TN b k = c := by
  constructor
  · intro h
    rw [← TN_mod b k k (Nat.le_refl _), h, TN_TN, Nat.mod_eq_of_lt hc]
  · intro h
    rw [← h, TN_TN]
theorem TN_div (b : Nat) : ∀ (k i : Nat), TN b (i + k) / 2 ^ k = TN b i
  | 0, i => by simp
  | k + 1, i => by
    have : TN b (i + (k + 1)) = TN b (i + k) * 2 + b / 2 ^ (i + k) % 2 := rfl
    rw [this, Nat.pow_succ, Nat.mul_comm (2 ^ k) 2, ← Nat.div_div_eq_div_mul, show (TN b (i + k) * 2 + b / 2 ^ (i + k) % 2) / 2 = TN b (i + k) by omega, TN_div b k i]

/-- A symbol's word stands at the beginning of bits. -/
def st (l : List Int) (b s : Nat) : Prop := s < l.length ∧ 0 < l.getD s 0 ∧ TN b (l.getD s 0).toNat = cw l s
theorem st_uniq {l : List Int} (h : Lens l) {b s t : Nat} (hs : st l b s) (ht : st l b t) : s = t := by
  have key : ∀ {s t : Nat}, st l b s → st l b t → l.getD s 0 ≤ l.getD t 0 → s = t := by
    intro s t hs ht hle
    have h1 := h.at s
    have h2 := h.at t
    refine cw_free h hs.1 ht.1 hs.2.1 hle ?_
    rw [← ht.2.2, ← hs.2.2]
    obtain ⟨d, hd⟩ : ∃ d, (l.getD t 0).toNat = (l.getD s 0).toNat + d := ⟨(l.getD t 0).toNat - (l.getD s 0).toNat, by omega⟩
    rw [hd, show (l.getD s 0).toNat + d - (l.getD s 0).toNat = d by omega, TN_div]
  rcases Int.le_total (l.getD s 0) (l.getD t 0) with h1 | h1
  · exact key hs ht h1
  · exact (key ht hs h1).symm

/-- A word's bits, as the program has them. -/
theorem rowC_eq {l : List Int} (h : Lens l) {s : Nat} (hs : s < l.length) : rowC l s = if 0 < l.getD s 0 then [((TN (cw l s) (l.getD s 0).toNat : Nat) : Int), l.getD s 0] else [0, 0] := by
  unfold rowC
  split
  · rename_i h0
    have h1 := h.at s
    have h2 := cw_eq h s
    have h3 := cw_lt h hs h0
    have hp : 2 ^ (l.getD s 0).toNat ≤ 2 ^ 16 := Nat.pow_le_pow_right (by decide) (by omega)
    have h4 : cw l s < 2 ^ 32 := by
      have : (2 : Nat) ^ 16 < 2 ^ 32 := by decide
      omega
    have e : IntKind.u32.wrap (fst1 (cvec l) (l.getD s 0).toNat + cn (l.take s) (l.getD s 0).toNat) = (cw l s : Int) := by
      unfold cwI at h2
      rw [wrapu32 (by omega), h2]
    rw [e, turn_ref _ _ h4, T_eq _ _ (by omega), show min (l.getD s 0).toNat 32 = (l.getD s 0).toNat by omega]
  · rfl
theorem rowC_two {l : List Int} (h : Lens l) {s : Nat} (hs : s < l.length) : ∃ w : Nat, rowC l s = [(w : Int), l.getD s 0] ∧ (0 < l.getD s 0 → w = TN (cw l s) (l.getD s 0).toNat ∧ w < 2 ^ (l.getD s 0).toNat) ∧ (¬ 0 < l.getD s 0 → w = 0) := by
  have h1 := h.at s
  rw [rowC_eq h hs]
  by_cases h0 : 0 < l.getD s 0
  · rw [if_pos h0]
    exact ⟨_, rfl, fun _ => ⟨rfl, TN_lt _ _⟩, fun h => absurd h0 h⟩
  · rw [if_neg h0]
    exact ⟨0, by rw [show l.getD s 0 = 0 by omega]; rfl, fun h => absurd h h0, fun _ => rfl⟩
/-- What the quick table says. -/
theorem mod_st {l : List Int} (h : Lens l) {b s : Nat} (hs : s < l.length) (h0 : 0 < l.getD s 0) : (b : Int) % 2 ^ (l.getD s 0).toNat = (rowC l s).getD 0 0 ↔ st l b s := by
  rw [rowC_eq h hs, if_pos h0]
  have e : (b : Int) % 2 ^ (l.getD s 0).toNat = ((b % 2 ^ (l.getD s 0).toNat : Nat) : Int) := by rw [Int.natCast_emod, Int.natCast_pow]; rfl
  rw [e]
  show ((b % 2 ^ (l.getD s 0).toNat : Nat) : Int) = ((TN (cw l s) (l.getD s 0).toNat : Nat) : Int) ↔ _
  have k := TN_iff b (cw l s) (l.getD s 0).toNat (cw_lt h hs h0)
  constructor
  · intro h1
    exact ⟨hs, h0, k.1 (by exact_mod_cast h1)⟩
  · intro h1
    exact_mod_cast k.2 h1.2.2
end Go.Sx

/- canon: a decoder's cells. -/
set_option maxRecDepth 100000
set_option linter.unusedVariables false
set_option linter.unusedSimpArgs false
namespace Go.Sx

theorem wrap16 {n : Int} (h : 0 ≤ n ∧ n < 32768) : IntKind.i16.wrap n = n := by
  have e : IntKind.i16.wrap n = if n % 65536 ≥ 32768 then n % 65536 - 65536 else n % 65536 := by simp [IntKind.wrap, IntKind.bits, IntKind.signed]
  rw [e]; split <;> omega
def DC (m : Bool) (lg : Int) (n f : List Int) (sy : SV) (tb : List Int) : List SV := .bool m :: .int .i64 lg :: (ints .i64 n ++ (ints .i64 f ++ sy :: ints .i16 tb))
/-- Cells behind a variable that are a decoder's. -/
structure IsDC (dc : List SV) (m : Bool) (lg : Int) (n f : List Int) (sy : SV) (tb : List Int) : Prop where
  eq : dc = DC m lg n f sy tb
  nl : n.length = 17
  fl : f.length = 17
  tl : tb.length = 1024

section
variable {dc : List SV} {m : Bool} {lg : Int} {n f : List Int} {sy : SV} {tb : List Int}
theorem IsDC.len (h : IsDC dc m lg n f sy tb) : dc.length = 1061 := by
  rw [h.eq]
  simp [DC, ints_length, h.nl, h.fl, h.tl]
theorem ints_at (k : IntKind) (xs : List Int) (q : Nat) (hq : q < xs.length) : (ints k xs)[q]? = some (.int k (xs.getD q 0)) := by
  simp [ints, List.getD, hq]
theorem IsDC.g0 (h : IsDC dc m lg n f sy tb) : dc[0]? = some (.bool m) := by rw [h.eq]; rfl
theorem IsDC.g1 (h : IsDC dc m lg n f sy tb) : dc[1]? = some (.int .i64 lg) := by rw [h.eq]; rfl
theorem IsDC.gn (h : IsDC dc m lg n f sy tb) {q : Nat} (hq : q < 17) : dc[2 + q]? = some (.int .i64 (n.getD q 0)) := by
  rw [h.eq, DC, Nat.add_comm 2 q, List.getElem?_cons_succ, List.getElem?_cons_succ, List.getElem?_append_left (by rw [ints_length, h.nl]; exact hq)]
  exact ints_at _ _ _ (by rw [h.nl]; exact hq)
theorem IsDC.gf (h : IsDC dc m lg n f sy tb) {q : Nat} (hq : q < 17) : dc[19 + q]? = some (.int .i64 (f.getD q 0)) := by
  rw [h.eq, DC, show 19 + q = (17 + q) + 1 + 1 by omega, List.getElem?_cons_succ, List.getElem?_cons_succ, List.getElem?_append_right (by rw [ints_length, h.nl]; omega), ints_length, h.nl,
    show 17 + q - 17 = q by omega, List.getElem?_append_left (by rw [ints_length, h.fl]; exact hq)]
  exact ints_at _ _ _ (by rw [h.fl]; exact hq)
theorem IsDC.gs (h : IsDC dc m lg n f sy tb) : dc[36]? = some sy := by
  rw [h.eq, DC, show 36 = 34 + 1 + 1 from rfl, List.getElem?_cons_succ, List.getElem?_cons_succ, List.getElem?_append_right (by rw [ints_length, h.nl]; omega), ints_length, h.nl,
    List.getElem?_append_right (by rw [ints_length, h.fl]; omega), ints_length, h.fl]
  rfl
theorem IsDC.gt (h : IsDC dc m lg n f sy tb) {q : Nat} (hq : q < 1024) : dc[37 + q]? = some (.int .i16 (tb.getD q 0)) := by
  rw [h.eq, DC, show 37 + q = (35 + q) + 1 + 1 by omega, List.getElem?_cons_succ, List.getElem?_cons_succ, List.getElem?_append_right (by rw [ints_length, h.nl]; omega), ints_length, h.nl,
    List.getElem?_append_right (by rw [ints_length, h.fl]; omega), ints_length, h.fl, show 35 + q - 17 - 17 = q + 1 by omega, List.getElem?_cons_succ]
  exact ints_at _ _ _ (by rw [h.tl]; exact hq)
/-- Two lists of cells are one if every cell is. -/
theorem IsDC.of_get {dc' : List SV} (hl : dc'.length = 1061) (nl : n.length = 17) (fl : f.length = 17) (tl : tb.length = 1024) (h0 : dc'[0]? = some (.bool m)) (h1 : dc'[1]? = some (.int .i64 lg))
    (hn : ∀ q, q < 17 → dc'[2 + q]? = some (.int .i64 (n.getD q 0))) (hf : ∀ q, q < 17 → dc'[19 + q]? = some (.int .i64 (f.getD q 0))) (hs : dc'[36]? = some sy) (ht : ∀ q, q < 1024 → dc'[37 + q]? = some (.int .i16 (tb.getD q 0))) : IsDC dc' m lg n f sy tb := by
  have h2 : IsDC (DC m lg n f sy tb) m lg n f sy tb := ⟨rfl, nl, fl, tl⟩
  refine ⟨List.ext_getElem? fun q => ?_, nl, fl, tl⟩
  rcases Nat.lt_or_ge q 1061 with hq | hq
  · rcases Nat.lt_or_ge q 2 with h3 | h3
    · rcases Nat.lt_or_ge q 1 with h4 | h4
      · rw [show q = 0 by omega, h0, h2.g0]
      · rw [show q = 1 by omega, h1, h2.g1]
    · rcases Nat.lt_or_ge q 19 with h4 | h4
      · obtain ⟨p, rfl⟩ : ∃ p, q = 2 + p := ⟨q - 2, by omega⟩
        rw [hn p (by omega), h2.gn (by omega)]
      · rcases Nat.lt_or_ge q 36 with h5 | h5
        · obtain ⟨p, rfl⟩ : ∃ p, q = 19 + p := ⟨q - 19, by omega⟩
          rw [hf p (by omega), h2.gf (by omega)]
        · rcases Nat.lt_or_ge q 37 with h6 | h6
          · rw [show q = 36 by omega, hs, h2.gs]
          · obtain ⟨p, rfl⟩ : ∃ p, q = 37 + p := ⟨q - 37, by omega⟩
            rw [ht p (by omega), h2.gt (by omega)]
  · rw [List.getElem?_eq_none (by omega), List.getElem?_eq_none (by rw [h2.len]; exact hq)]

theorem IsDC.set (h : IsDC dc m lg n f sy tb) {o : Nat} {v : SV} {m' : Bool} {lg' : Int} {sy' : SV} {tb' : List Int} (hl : tb'.length = 1024)
    (h0 : (if o = 0 then some v else some (.bool m)) = some (.bool m')) (h1 : (if o = 1 then some v else some (.int .i64 lg)) = some (.int .i64 lg')) (ho : o < 2 ∨ 36 ≤ o) (hx : o < 1061)
    (hs : (if o = 36 then some v else some sy) = some sy') (ht : ∀ q, q < 1024 → (if o = 37 + q then some v else some (.int .i16 (tb.getD q 0))) = some (.int .i16 (tb'.getD q 0))) : IsDC (dc.set o v) m' lg' n f sy' tb' := by
  have hlen := h.len
  refine IsDC.of_get (by rw [List.length_set, hlen]) h.nl h.fl hl ?_ ?_ (fun q hq => ?_) (fun q hq => ?_) ?_ (fun q hq => ?_)
  · rw [List.getElem?_set, ← h0, h.g0]; split <;> simp_all
  · rw [List.getElem?_set, ← h1, h.g1]; split <;> simp_all
  · rw [List.getElem?_set, if_neg (by omega), h.gn hq]
  · rw [List.getElem?_set, if_neg (by omega), h.gf hq]
  · rw [List.getElem?_set, ← hs, h.gs]; split <;> simp_all
  · rw [List.getElem?_set, ← ht q hq, h.gt hq]
    split
    · rw [if_pos (by omega)]
    · rfl
section
variable {κ : List SV → Prop} (h : IsDC dc m lg n f sy tb)
include h
theorem IsDC.st0 {b : Bool} (hk : ∀ dc', IsDC dc' b lg n f sy tb → κ dc') : bindO.match_1 (fun _ => Prop) (setO dc 0 [.bool b]) (fun c => κ c) (fun _ => False) := by
  refine bindO_some (setO_of (by rw [h.len]; omega)) (hk _ ?_)
  exact h.set h.tl rfl rfl (by omega) (by omega) rfl fun q hq => by rw [if_neg (by omega)]
theorem IsDC.st1 {x : Int} (hk : ∀ dc', IsDC dc' m x n f sy tb → κ dc') : bindO.match_1 (fun _ => Prop) (setO dc 1 [.int .i64 x]) (fun c => κ c) (fun _ => False) := by
  refine bindO_some (setO_of (by rw [h.len]; omega)) (hk _ ?_)
  exact h.set h.tl rfl rfl (by omega) (by omega) rfl fun q hq => by rw [if_neg (by omega)]
theorem IsDC.sts {x : SV} (hk : ∀ dc', IsDC dc' m lg n f x tb → κ dc') : bindO.match_1 (fun _ => Prop) (setO dc 36 [x]) (fun c => κ c) (fun _ => False) := by
  refine bindO_some (setO_of (by rw [h.len]; omega)) (hk _ ?_)
  exact h.set h.tl rfl rfl (by omega) (by omega) rfl fun q hq => by rw [if_neg (by omega)]
theorem IsDC.stt {p : Nat} {x : Int} (hp : p < 1024) (hk : ∀ dc', IsDC dc' m lg n f sy (tb.set p x) → κ dc') : bindO.match_1 (fun _ => Prop) (setO dc (37 + p) [.int .i16 x]) (fun c => κ c) (fun _ => False) := by
  refine bindO_some (setO_of (by rw [h.len]; omega)) (hk _ ?_)
  refine h.set (by rw [List.length_set]; exact h.tl) (by rw [if_neg (by omega)]) (by rw [if_neg (by omega)]) (by omega) (by omega) (by rw [if_neg (by omega)]) fun q hq => ?_
  simp only [List.getD, List.getElem?_set]
  by_cases hqp : p = q
  · subst hqp
    rw [if_pos rfl, if_pos rfl, if_pos (by rw [h.tl]; exact hp)]
    rfl
  · rw [if_neg (by omega), if_neg hqp]
theorem IsDC.stA {A : Ar} (hA : A = R) {i x : Int} (h0 : 0 ≤ i ∧ i < 512) (hk : ∀ dc', IsDC dc' m lg n f sy (tb.set (i.toNat * 2) x) → κ dc') : bindO.match_1 (fun _ => Prop) (setO dc (A.ix 37 i 2) [.int .i16 x]) (fun c => κ c) (fun _ => False) := by
  rw [ixA hA]
  exact h.stt (by omega) hk
theorem IsDC.stB {A : Ar} (hA : A = R) {i x : Int} (h0 : 0 ≤ i ∧ i < 512) (hk : ∀ dc', IsDC dc' m lg n f sy (tb.set (i.toNat * 2 + 1) x) → κ dc') : bindO.match_1 (fun _ => Prop) (setO dc (A.ix 37 i 2 + 1) [.int .i16 x]) (fun c => κ c) (fun _ => False) := by
  rw [ixA hA, Nat.add_assoc]
  exact h.stt (by omega) hk
theorem IsDC.r0 : nth dc 0 = some (.bool m) := by rw [nth_eq]; exact h.g0
theorem IsDC.r1 : nth dc 1 = some (.int .i64 lg) := by rw [nth_eq]; exact h.g1
theorem IsDC.rs : nth dc 36 = some sy := by rw [nth_eq]; exact h.gs
theorem IsDC.subN {A : Ar} (hA : A = R) : sub1 dc 2 17 = some (A.ints .i64 n) := by
  subst hA
  rw [sub1_of (by rw [h.len]; omega)]
  congr 1
  refine List.ext_getElem? fun q => ?_
  rw [List.getElem?_take]
  show _ = (ints .i64 n)[q]?
  split
  · rename_i hq
    rw [List.getElem?_drop, h.gn hq, ints_at _ _ _ (by rw [h.nl]; exact hq)]
  · rw [List.getElem?_eq_none (by rw [ints_length, h.nl]; omega)]
theorem IsDC.sp {o : Nat} {l : List SV} (hl : l.length = 17) (ho : o + 17 ≤ 1061) : setO dc o l = some (dc.take o ++ l ++ dc.drop (o + 17)) := by
  rw [setO_ofL _ _ _ (by rw [h.len, hl]; exact ho), hl]
theorem IsDC.spl {o : Nat} {l : List SV} (hl : l.length = 17) (ho : o + 17 ≤ 1061) : (dc.take o ++ l ++ dc.drop (o + 17)).length = 1061 := by
  simp only [List.length_append, List.length_take, List.length_drop, hl, h.len]
  omega
theorem IsDC.spg {o : Nat} {l : List SV} (hl : l.length = 17) (ho : o + 17 ≤ 1061) (q : Nat) : (dc.take o ++ l ++ dc.drop (o + 17))[q]? = if o ≤ q ∧ q < o + 17 then l[q - o]? else dc[q]? := by
  have hlen := h.len
  rw [List.append_assoc, List.getElem?_append, List.getElem?_append]
  simp only [List.length_take, hlen, hl, List.getElem?_drop, List.getElem?_take]
  rw [show min o 1061 = o by omega]
  split
  · rw [if_neg (by omega)]
  · split
    · rw [if_pos (by omega)]
    · rw [if_neg (by omega)]
      congr 1; omega
theorem IsDC.stN {A : Ar} (hA : A = R) {n' : List Int} {bl : Bool} (hb : bl = true) (hn : n'.length = 17) (hk : ∀ dc', IsDC dc' m lg n' f sy tb → κ dc') :
    ifB.match_1 (fun _ => Prop) (scB (A.ints .i64 n')) (fun _ => ifB.match_1 (fun _ => Prop) bl (fun _ => bindO.match_1 (fun _ => Prop) (setO dc 2 (A.ints .i64 n')) (fun l => κ l) (fun _ => False)) (fun _ => False)) (fun _ => False) := by
  rw [scA hA, hb]
  have hl : (A.ints .i64 n').length = 17 := by rw [A_ints_len hA, hn]
  refine bindO_some (h.sp hl (by omega)) (hk _ ?_)
  subst hA
  refine IsDC.of_get (h.spl hl (by omega)) hn h.fl h.tl ?_ ?_ (fun q hq => ?_) (fun q hq => ?_) ?_ (fun q hq => ?_) <;> rw [h.spg hl (by omega)]
  · rw [if_neg (by omega)]; exact h.g0
  · rw [if_neg (by omega)]; exact h.g1
  · rw [if_pos (by omega), Nat.add_sub_cancel_left]; exact ints_at _ _ _ (by omega)
  · rw [if_neg (by omega)]; exact h.gf hq
  · rw [if_neg (by omega)]; exact h.gs
  · rw [if_neg (by omega)]; exact h.gt hq
theorem IsDC.stF {A : Ar} (hA : A = R) {f' : List Int} {bl : Bool} (hb : bl = true) (hn : f'.length = 17) (hk : ∀ dc', IsDC dc' m lg n f' sy tb → κ dc') :
    ifB.match_1 (fun _ => Prop) (scB (A.ints .i64 f')) (fun _ => ifB.match_1 (fun _ => Prop) bl (fun _ => bindO.match_1 (fun _ => Prop) (setO dc 19 (A.ints .i64 f')) (fun l => κ l) (fun _ => False)) (fun _ => False)) (fun _ => False) := by
  rw [scA hA, hb]
  have hl : (A.ints .i64 f').length = 17 := by rw [A_ints_len hA, hn]
  refine bindO_some (h.sp hl (by omega)) (hk _ ?_)
  subst hA
  refine IsDC.of_get (h.spl hl (by omega)) h.nl hn h.tl ?_ ?_ (fun q hq => ?_) (fun q hq => ?_) ?_ (fun q hq => ?_) <;> rw [h.spg hl (by omega)]
  · rw [if_neg (by omega)]; exact h.g0
  · rw [if_neg (by omega)]; exact h.g1
  · rw [if_neg (by omega)]; exact h.gn hq
  · rw [if_pos (by omega), Nat.add_sub_cancel_left]; exact ints_at _ _ _ (by omega)
  · rw [if_neg (by omega)]; exact h.gs
  · rw [if_neg (by omega)]; exact h.gt hq
/-- An element of n, of f is read; a row of the table. -/
theorem IsDC.rn {A : Ar} (hA : A = R) {i : Int} {κ : SV → Prop} (h0 : 0 ≤ i ∧ i < 17) (hk : ∀ x, x = n.getD i.toNat 0 → κ (.int .i64 x)) :
    A.inr i 17 ∧ bindO.match_1 (fun _ => Prop) (nth dc (A.ix 2 i 1)) (fun c => κ c) (fun _ => False) := by
  refine ⟨by rw [inrA hA]; exact h0, bindO_some ?_ (hk _ rfl)⟩
  rw [nth_eq, ixA hA, Nat.mul_one]
  exact h.gn (by omega)
theorem IsDC.rf {A : Ar} (hA : A = R) {i : Int} {κ : SV → Prop} (h0 : 0 ≤ i ∧ i < 17) (hk : ∀ x, x = f.getD i.toNat 0 → κ (.int .i64 x)) :
    A.inr i 17 ∧ bindO.match_1 (fun _ => Prop) (nth dc (A.ix 19 i 1)) (fun c => κ c) (fun _ => False) := by
  refine ⟨by rw [inrA hA]; exact h0, bindO_some ?_ (hk _ rfl)⟩
  rw [nth_eq, ixA hA, Nat.mul_one]
  exact h.gf (by omega)
theorem IsDC.rt {A : Ar} (hA : A = R) {i : Int} {κ : List SV → Prop} (h0 : 0 ≤ i ∧ i < 512) (hk : ∀ x y, x = tb.getD (i.toNat * 2) 0 → y = tb.getD (i.toNat * 2 + 1) 0 → κ [.int .i16 x, .int .i16 y]) :
    A.inr i 512 ∧ bindO.match_1 (fun _ => Prop) (sub1 dc (A.ix 37 i 2) 2) (fun c => κ c) (fun _ => False) := by
  refine ⟨by rw [inrA hA]; exact h0, bindO_some ?_ (hk _ _ rfl rfl)⟩
  rw [ixA hA, sub1_of (by rw [h.len]; omega)]
  congr 1
  refine List.ext_getElem? fun q => ?_
  rw [List.getElem?_take]
  rcases q with _ | _ | q
  · rw [if_pos (by omega), List.getElem?_drop, Nat.add_zero, h.gt (by omega)]; rfl
  · rw [if_pos (by omega), List.getElem?_drop, Nat.add_assoc, h.gt (by omega)]; rfl
  · rw [if_neg (by omega)]; rfl
end
theorem IsDC.hl {N : Nat} (h : IsDC dc m lg n f sy tb) (hs : hLt N sy) : hLts N dc := by
  have key : ∀ (a b : List SV), hLts N a → hLts N b → hLts N (a ++ b) := by
    intro a b ha hb
    induction a with
    | nil => exact hb
    | cons x a ih => exact ⟨ha.1, ih ha.2⟩
  rw [h.eq]
  exact ⟨trivial, trivial, key _ _ (ints_hLts _ _ _) (key _ _ (ints_hLts _ _ _) ⟨hs, ints_hLts _ _ _⟩)⟩
theorem IsDC.mapR (h : IsDC dc m lg n f sy tb) (g : Nat → Nat × Nat) : IsDC (dc.map (renC g)) m lg n f (renC g sy) tb := by
  refine ⟨?_, h.nl, h.fl, h.tl⟩
  rw [h.eq]
  simp only [DC, List.map_cons, List.map_append, ints_ren]
  rfl
theorem IsDC.uniq {dc2 : List SV} (h : IsDC dc m lg n f sy tb) (h2 : IsDC dc2 m lg n f sy tb) : dc = dc2 := by rw [h.eq, h2.eq]
/-- A decoder over a renaming. -/
theorem subC_dc {M N : Nat} {σ : List Nat} {H1 : List Ck} {i j T : Nat} {dc1 : List SV} (h : IsDC dc m lg n f sy tb) (hs : hLt N sy) (h1 : IsDC dc1 m lg n f (renC (sg σ) sy) tb) (hj : H1[j]? = some (.box T dc1)) : subC M N σ H1 i j (.box T dc) := by
  refine ⟨h.hl hs, ?_⟩
  rw [hj, renCk, h1.uniq (h.mapR (sg σ))]
theorem IsDC.setS (h : IsDC dc m lg n f sy tb) (x : SV) : IsDC (dc.set 36 x) m lg n f x tb :=
  h.set h.tl rfl rfl (by omega) (by omega) rfl fun q hq => by rw [if_neg (by omega)]
/-- A new one. -/
theorem zero_dc {A : Ar} (hA : A = R) {z : List Value} {cs : List SV} (h : cs = A.row 1 z) (hz : z.map SV.of = DC false 0 (List.replicate 17 0) (List.replicate 17 0) .nilS (List.replicate 1024 0)) :
    IsDC cs false 0 (List.replicate 17 0) (List.replicate 17 0) .nilS (List.replicate 1024 0) := ⟨by subst hA; rw [h, zrow_1]; exact hz, by simp, by simp, by simp⟩
end
end Go.Sx

/- canon: the decoder. -/
set_option maxRecDepth 100000
set_option maxHeartbeats 4000000
set_option linter.unusedVariables false
set_option linter.unusedSimpArgs false
namespace Go.Sx
open Go.Proofs.Tryd

section
variable {A : Ar} {C : CallT} {s : St} {κ : List Nat → SV → List Ck → Prop}
theorem call_codes (hC : C = CallX prog) (hA : A = R) {l : List Int} {hb ln : Nat} (hln : ln = l.length) (h4 : cellsAt s.H hb 0 ln = some (A.ints .i64 l)) {av : List SV} (hav : argsOk 1 (linkOf s.H.length [(hb, 0, false)]) [.sl 0 0 ln false] av)
    (hk : ∀ (e : Int) (rs : List (List Int)) (k : Nat) (cs : List SV), WrQ l e → (e = 0 → rs = codesL l) → (e ≠ 0 → rs = []) → k = rs.length → RWs CodeK rs cs → κ [] (.tup [.lst (len1 s.H) k, .int .i64 e]) (apd s.H [.lst 58 2 cs])) : C 38 av s κ := by
  have hS := s_codes l ln hln
  rw [← hA] at hS
  refine cal_of hC hS [(hb, 0, false)] ⟨by simp, trivial⟩ ⟨hLtsA hA .., zOksA hA .., ?_, trivial⟩ hav ?_
  · rw [renA hA, A_ints_len hA, ← hln]; exact h4
  rintro _ _ ⟨e, rs, k, cs, h1, h2, h3, h5, h6, rfl, rfl⟩
  refine ⟨_, _, s.H ++ [.lst 58 2 cs], rfl, rfl, ?_, ?_⟩
  · simp only [backH, List.map_cons, List.map_nil, renCk, renA hA, h6.ren, setAll]
    rfl
  · have := hk e rs k cs h1 h2 h3 h5 h6
    rw [len1_eq, apd_eq] at this
    exact this
end

def selT (l : List Int) (x : Nat) : Nat → List Int
  | 0 => []
  | j + 1 => selT l x j ++ (if l.getD j 0 = (x : Int) then [(j : Int)] else [])
def syA (l : List Int) : Nat → List Int
  | 0 => []
  | x + 1 => syA l x ++ selT l (x + 1) l.length
def lgA (l : List Int) : Nat → Int
  | 0 => 0
  | x + 1 => if selT l (x + 1) l.length = [] then lgA l x else ((x + 1 : Nat) : Int)

theorem selT_len (l : List Int) (x : Nat) : ∀ j, (selT l x j).length ≤ j
  | 0 => by simp [selT]
  | j + 1 => by
    have := selT_len l x j
    simp only [selT, List.length_append]
    split <;> simp <;> omega
theorem syA_len (l : List Int) : ∀ x, (syA l x).length ≤ x * l.length
  | 0 => by simp [syA]
  | x + 1 => by
    have h1 := syA_len l x
    have h2 := selT_len l (x + 1) l.length
    simp only [syA, List.length_append, Nat.add_mul, Nat.one_mul]
    omega

/-- A word of at most nine bits stands at the beginning of i's bits. -/
def mtc (l : List Int) (s : Nat) (i : Nat) : Prop := 0 < l.getD s 0 ∧ l.getD s 0 ≤ 9 ∧ (i : Int) % 2 ^ (l.getD s 0).toNat = (rowC l s).getD 0 0
/-- The quick table behind j symbols. -/
def TbQ (l : List Int) (j : Nat) (tb : List Int) : Prop := ∀ i, i < 512 → (tb.getD (i * 2 + 1) 0 = 0 → ∀ s, s < j → ¬ mtc l s i) ∧ (tb.getD (i * 2 + 1) 0 ≠ 0 → ∃ s, s < j ∧ mtc l s i ∧ tb.getD (i * 2) 0 = (s : Int) ∧ tb.getD (i * 2 + 1) 0 = l.getD s 0)
/-- ... at one place. -/
def Tb1 (l : List Int) (j : Nat) (tb : List Int) (i : Nat) : Prop := (tb.getD (i * 2 + 1) 0 = 0 → ∀ s, s < j → ¬ mtc l s i) ∧ (tb.getD (i * 2 + 1) 0 ≠ 0 → ∃ s, s < j ∧ mtc l s i ∧ tb.getD (i * 2) 0 = (s : Int) ∧ tb.getD (i * 2 + 1) 0 = l.getD s 0)
/-- ... in the middle of a symbol's round, up to place pn. -/
def TbI (l : List Int) (j : Nat) (tb : List Int) (pn : Nat) : Prop := ∀ i, i < 512 → (mtc l j i → i < pn → tb.getD (i * 2) 0 = (j : Int) ∧ tb.getD (i * 2 + 1) 0 = l.getD j 0) ∧ (¬ (mtc l j i ∧ i < pn) → Tb1 l j tb i)
def NewQ (l : List Int) (r : SV) (H : List Ck) : Prop :=
  (∃ e, WrQ l e ∧ e ≠ 0 ∧ r = .tup [.nilP, .int .i64 e] ∧ H = [.vw (R.ints .i64 l)]) ∨
  (∃ (dc : List SV) (ks : Nat) (tb : List Int), WrQ l 0 ∧ IsDC dc true (lgA l 16) (cvec l) (fvec (cvec l)) (.lst 2 ks) tb ∧ ks = (syA l 16).length ∧ TbQ l l.length tb ∧ r = .tup [.ptr 1 0, .int .i64 0] ∧ H = [.vw (R.ints .i64 l), .box 110 dc, .lst 3 1 (R.ints .i64 (syA l 16))])

theorem s_cnew (l : List Int) (ln : Nat) (hln : ln = l.length) : Spec prog 49 [.sl 0 0 ln false] [.vw (R.ints .i64 l)] (NewQ l) := by
  refine Spec_of_kF (D := fun i => if i = 24 then (16, [2]) else (0, [])) (ks := [0, 2, 3, 4, 5, 6, 7, 8, 9, 10, 11, 12, 43, 44, 45, 68, 69, 70]) tok mixed (fn := f49) rfl rfl rfl (by kernel_rfl) (N := 112) rfl (rs := [.tmp 2, .tmp 3]) rfl (Nat.le_of_ble_eq_true rfl) fun A C Kp E ag L q hA hC hK hE hag hL hq => ?_
  rw [← hA]
  cbv
  refine call_codes hC hA hln (cells_vwA hA rfl hln) ⟨⟨(show 0 < 1 by omega), rfl, rfl, rfl⟩, trivial⟩ fun e rs k cs hW h1 h2 hk rwC => ?_
  cbv
  refine ifB_intro (fun h => ?_) (fun h => ?_)
  · have he := h
    (try simp only [wA hA] at he)
    (try rw [h]); clear h
    cbv
    subst hA hq
    refine Fin_of ⟨[(2, .nilP), (3, .int .i64 e)], [.vw (R.ints .i64 l)]⟩ ?_ (.inl ⟨e, hW, he, rfl, rfl⟩)
    exact Sb [0]
  · have he := h
    (try simp only [wA hA] at he)
    (try rw [h]); clear h
    cbv
    (try simp only [ncast] at *)
    subst he
    intro dz hdz
    have hZ := zero_dc hA hdz (by kernel_rfl)
    clear hdz
    cbv
    refine hZ.st0 fun dc hD => ?_
    clear hZ
    cbv
    obtain ⟨hokk, hbig⟩ : okL l ∧ wg (cvec l) 17 ≤ 65536 := by
      rcases hW with ⟨_, h⟩ | ⟨_, _, h⟩ | ⟨h1, h2, _⟩
      · omega
      · omega
      · exact ⟨h1, h2⟩
    refine call_counts hC hA hln (cells_vwA hA rfl hln) fun zs ok h17 hok hno => ?_
    cases ok
    · exact absurd hokk (hno rfl)
    have hzs := (hok rfl).2
    clear hok hno
    cbv
    refine hD.stN hA (lenA2 hA h17) h17 fun dc2 hD2 => ?_
    cbv
    refine bindO_some (hD2.subN hA) ?_
    cbv
    refine call_firsts hC hA h17 (fun q => by rw [hzs]; exact cvec_bnd hokk.1 q) fun fs hfs => ?_
    have hf17 : fs.length = 17 := by rw [hfs]; simp [fvec]
    cbv
    refine hD2.stF hA (lenA2 hA hf17) hf17 fun dc3 hD3 => ?_
    obtain ⟨t0, ht0⟩ : ∃ t0, t0 = List.replicate 1024 (0 : Int) := ⟨_, rfl⟩
    rw [← ht0] at hD3
    have hz0 : ∀ i, t0.getD i 0 = 0 := fun i => by
      rw [ht0]
      simp only [List.getD, List.getElem?_replicate]
      split <;> rfl
    clear ht0 hD hD2
    cbv
    rw [hL]
    refine ⟨fun kk s => ∃ (i : Int) (x ks : Nat) (sy : List Int) (lg : Int) (dc : List SV), i = ((x + 1 : Nat) : Int) ∧ x ≤ 16 ∧ sy = syA l x ∧ ks = sy.length ∧ lg = lgA l x ∧ IsDC dc true lg zs fs (.lst 3 ks) t0 ∧ kk = 17 - x ∧ s = ⟨[(0, .sl 0 0 ln false), (4, .lst 1 k), (6, .ptr 2 0), (7, .int .i64 i)], [.vw (A.ints .i64 l), .lst 58 2 cs, .box 110 dc, .lst 3 1 (A.ints .i64 sy)]⟩,
      ⟨_, ⟨[(0, .sl 0 0 ln false), (4, .lst 1 k), (6, .ptr 2 0), (7, .int .i64 1)], [.vw (A.ints .i64 l), .lst 58 2 cs, .box 110 (dc3.set 36 (.lst 3 0)), .lst 3 1 (A.ints .i64 [])]⟩, ?_, 1, 0, 0, [], 0, _, rfl, by omega, rfl, rfl, rfl, hD3.setS _, rfl, rfl⟩, ?_⟩
    · subst hA
      refine (Sub_nil (h := 2) (T := 110) (j := 36) (e := 3) (sz := 1) (cs := dc3) rfl hD3.gs).trans ?_
      have dc0 : ∀ (N : Nat) (H1 : List Ck), 3 < N → H1[2]? = some (.box 110 (dc3.set 36 (.lst 5 0))) → subC 1 N [0, 1, 2, 5] H1 2 2 (.box 110 (dc3.set 36 (.lst 3 0))) :=
        fun N H1 hN h => subC_dc (hD3.setS _) (show 3 < N from hN) (hD3.setS _) h
      exact Sc [0, 1, 2, 5] (by repeat' (first | exact dc0 _ _ (Nat.le_of_ble_eq_true rfl) rfl | exact trivial | exact fun _ => rfl | exact fun h => absurd h (by simp) | exact subC_ints rfl | exact subC_rw rwC rfl | exact subC_rwv rwC rfl rfl | refine And.intro ?_ ?_ | rfl | (simp [subH_nil, hLts, hLt, renCk, renC, sg, Ck.cells, R_ints_ren, R_ints_hLts]; done)))
    rintro kk _ ⟨i, x, ks, sy, lg, dc4, hi, hx, hsy, hks, hlg, hD4, hkk, rfl⟩
    cbv
    refine ifB_intro (fun h => ?_) (fun h => ?_)
    · have hle := h
      (try simp only [wA hA] at hle)
      (try rw [h]); clear h
      cbv
      (try simp only [ncast] at *)
      refine loop_keep (fun k2 s => ∃ (q : Int) (j ks : Nat) (sy : List Int) (lg : Int) (dc : List SV), q = (j : Int) ∧ j ≤ l.length ∧ sy = syA l x ++ selT l (x + 1) j ∧ ks = sy.length ∧ lg = (if selT l (x + 1) j = [] then lgA l x else ((x + 1 : Nat) : Int)) ∧ IsDC dc true lg zs fs (.lst 3 ks) t0 ∧ k2 = l.length - j ∧
          s = ⟨[(0, .sl 0 0 ln false), (4, .lst 1 k), (6, .ptr 2 0), (7, .int .i64 i), (43, .sl 0 0 ln false), (44, .int .i64 (A.nat ln)), (45, .int .i64 q)], [.vw (A.ints .i64 l), .lst 58 2 cs, .box 110 dc, .lst 3 1 (A.ints .i64 sy)]⟩)
        [0, 4, 6, 7, 43, 44, 45] _ ⟨0, 0, ks, sy, lg, dc4, rfl, by omega, by simp [selT, hsy], hks, by simp [selT, hlg], hD4, rfl, rfl⟩ ?_
      rintro k2 _ ⟨q, j, ks2, sy2, lg2, dc5, hq1, hj, hsy2, hks2, hlg2, hD5, hk2, rfl⟩
      cbv
      refine ifB_intro (fun h => ?_) (fun h => ?_)
      · have hlt := h
        (try simp only [wA hA] at hlt)
        (try rw [h]); clear h
        cbv
        (try simp only [ncast] at *)
        refine rdA hA (by (first | omega | (try simp only [wA hA, wB hA, Go.IntKind.wrap_i64] at *) <;> omega | (try simp only [decide_eq_true_eq, decide_eq_false_iff_not, beq_iff_eq, beq_eq_false_iff_ne, bne_iff_ne, bne_eq_false_iff_eq, Bool.not_eq_true', Bool.not_eq_false', ncast, Int.not_lt, Int.not_le, ne_eq, not_true_eq_false, not_false_eq_true, false_or, true_and, Go.IntKind.wrap_i64] at *) <;> omega)) (by (first | omega | (try simp only [wA hA, wB hA, Go.IntKind.wrap_i64] at *) <;> omega | (try simp only [decide_eq_true_eq, decide_eq_false_iff_not, beq_iff_eq, beq_eq_false_iff_ne, bne_iff_ne, bne_eq_false_iff_eq, Bool.not_eq_true', Bool.not_eq_false', ncast, Int.not_lt, Int.not_le, ne_eq, not_true_eq_false, not_false_eq_true, false_or, true_and, Go.IntKind.wrap_i64] at *) <;> omega)) fun y hy => ?_
        cbv
        (try simp only [ncast] at *)
        have hji : 0 + q.toNat = j := by omega
        rw [hji] at hy
        refine ifB_intro (fun h => ?_) (fun h => ?_)
        · have heq := h
          (try simp only [wA hA] at heq)
          (try rw [h]); clear h
          cbv
          (try simp only [ncast] at *)
          refine bindO_some hD5.rs ?_
          cbv
          have ha := apdA1 hA .i64 sy2 q
          have hsl : sy2.length ≤ 100000 := by
            rw [hsy2, List.length_append]
            have h1 := syA_len l x
            have h2 := selT_len l (x + 1) j
            have h3 : x * l.length ≤ 16 * 4096 := Nat.mul_le_mul hx hokk.1
            have h4 := hokk.1
            omega
          refine ⟨?_, ?_, ?_⟩
          · subst hA
            show (R.ints .i64 sy2).length = ks2 * 1
            rw [R_ints_length]; omega
          · subst hA
            show (ks2 + 1) * 8 ≤ room
            unfold room; omega
          refine hD5.sts fun dc6 hD6 => ?_
          cbv
          refine hD6.st1 fun dc7 hD7 => ?_
          cbv
          (try simp only [ncast] at *)
          have hsel : selT l (x + 1) (j + 1) = selT l (x + 1) j ++ [q] := by
            show selT l (x + 1) j ++ _ = _
            rw [if_pos (by rw [← hy, ← heq]; omega), hq1]
          simp only [addA hA]
          have e : IntKind.i64.wrap (q + 1) = q + 1 := wrap64 (by have := hokk.1; omega)
          subst hag
          refine ⟨l.length - (j + 1), ⟨[(0, .sl 0 0 ln false), (4, .lst 1 k), (6, .ptr 2 0), (7, .int .i64 i), (43, .sl 0 0 ln false), (44, .int .i64 (A.nat ln)), (45, .int .i64 (IntKind.i64.wrap (q + 1)))], [.vw (A.ints .i64 l), .lst 58 2 cs, .box 110 (dc7.set 36 (.lst 3 (ks2 + 1))), .lst 3 1 (A.ints .i64 (sy2 ++ [q]))]⟩, by omega, ?_,
            IntKind.i64.wrap (q + 1), j + 1, ks2 + 1, sy2 ++ [q], i, _, by omega, by omega, by rw [hsy2, hsel, List.append_assoc], by simp [hks2], by rw [hsel, if_neg (by simp)]; omega, hD7.setS _, rfl, rfl⟩
          subst hA
          have dc0 : ∀ (N : Nat) (H1 : List Ck), 3 < N → H1[2]? = some (.box 110 dc7) → subC 1 N [0, 1, 2, 5] H1 2 2 (.box 110 (dc7.set 36 (.lst 3 (ks2 + 1)))) :=
            fun N H1 hN h => subC_dc (hD7.setS _) (show 3 < N from hN) hD7 h
          exact Sd [0, 1, 2, 5] (by repeat' (first | exact dc0 _ _ (Nat.le_of_ble_eq_true rfl) rfl | exact trivial | exact fun _ => rfl | exact fun h => absurd h (by simp) | exact subC_ints rfl | exact subC_ints (congrArg (fun l => some (Ck.lst _ _ l)) ha) | exact subC_rw rwC rfl | exact subC_rwv rwC rfl rfl | refine And.intro ?_ ?_ | rfl | (simp [subH_nil, hLts, hLt, renCk, renC, sg, Ck.cells, R_ints_ren, R_ints_hLts, ha]; done))) (by repeat' (first | exact trivial | exact .inr ⟨trivial, rfl⟩ | exact .inr ⟨by simp [vOk, hLt, hLts, ha], rfl⟩ | refine And.intro ?_ ?_))
        · have hne := h
          (try simp only [wA hA] at hne)
          (try rw [h]); clear h
          cbv
          (try simp only [ncast] at *)
          have hsel : selT l (x + 1) (j + 1) = selT l (x + 1) j := by
            show selT l (x + 1) j ++ _ = _
            rw [if_neg (by rw [← hy]; omega), List.append_nil]
          simp only [addA hA]
          have e : IntKind.i64.wrap (q + 1) = q + 1 := wrap64 (by have := hokk.1; omega)
          subst hag
          refine ⟨l.length - (j + 1), ⟨[(0, .sl 0 0 ln false), (4, .lst 1 k), (6, .ptr 2 0), (7, .int .i64 i), (43, .sl 0 0 ln false), (44, .int .i64 (A.nat ln)), (45, .int .i64 (IntKind.i64.wrap (q + 1)))], [.vw (A.ints .i64 l), .lst 58 2 cs, .box 110 dc5, .lst 3 1 (A.ints .i64 sy2)]⟩, by omega, ?_,
            IntKind.i64.wrap (q + 1), j + 1, ks2, sy2, lg2, dc5, by omega, by omega, by rw [hsel]; exact hsy2, hks2, by rw [hsel]; exact hlg2, hD5, rfl, rfl⟩
          subst hA
          have dc0 : ∀ (N : Nat) (H1 : List Ck), 3 < N → H1[2]? = some (.box 110 dc5) → subC 1 N [0, 1, 2, 3] H1 2 2 (.box 110 dc5) :=
            fun N H1 hN h => subC_dc hD5 (show 3 < N from hN) hD5 h
          exact Sc [0, 1, 2, 3] (by repeat' (first | exact dc0 _ _ (Nat.le_of_ble_eq_true rfl) rfl | exact trivial | exact fun _ => rfl | exact fun h => absurd h (by simp) | exact subC_ints rfl | exact subC_rw rwC rfl | exact subC_rwv rwC rfl rfl | refine And.intro ?_ ?_ | rfl | (simp [subH_nil, hLts, hLt, renCk, renC, sg, Ck.cells, R_ints_ren, R_ints_hLts]; done)))
      · have hge := h
        (try simp only [wA hA] at hge)
        (try rw [h]); clear h
        cbv
        (try simp only [ncast] at *)
        have hjl : j = l.length := by omega
        simp only [addA hA]
        have e : IntKind.i64.wrap (i + 1) = i + 1 := wrap64 (by omega)
        subst hag
        refine ⟨17 - (x + 1), ⟨[(0, .sl 0 0 ln false), (4, .lst 1 k), (6, .ptr 2 0), (7, .int .i64 (IntKind.i64.wrap (i + 1)))], [.vw (A.ints .i64 l), .lst 58 2 cs, .box 110 dc5, .lst 3 1 (A.ints .i64 sy2)]⟩, by omega, ?_,
          IntKind.i64.wrap (i + 1), x + 1, ks2, sy2, lg2, dc5, by omega, by omega, by rw [hsy2, hjl]; rfl, hks2, by rw [hlg2, hjl]; rfl, hD5, rfl, rfl⟩
        subst hA
        have dc0 : ∀ (N : Nat) (H1 : List Ck), 3 < N → H1[2]? = some (.box 110 dc5) → subC 1 N [0, 1, 2, 3] H1 2 2 (.box 110 dc5) :=
          fun N H1 hN h => subC_dc hD5 (show 3 < N from hN) hD5 h
        exact Sc [0, 1, 2, 3] (by repeat' (first | exact dc0 _ _ (Nat.le_of_ble_eq_true rfl) rfl | exact trivial | exact fun _ => rfl | exact fun h => absurd h (by simp) | exact subC_ints rfl | exact subC_rw rwC rfl | exact subC_rwv rwC rfl rfl | refine And.intro ?_ ?_ | rfl | (simp [subH_nil, hLts, hLt, renCk, renC, sg, Ck.cells, R_ints_ren, R_ints_hLts]; done)))
    · have hgt := h
      (try simp only [wA hA] at hgt)
      (try rw [h]); clear h
      cbv
      (try simp only [ncast] at *)
      have hx16 : x = 16 := by omega
      subst hx16
      refine loop_keep (fun k2 s => ∃ (q : Int) (j : Nat) (tb : List Int) (dc : List SV), q = (j : Int) ∧ j ≤ l.length ∧ TbQ l j tb ∧ IsDC dc true lg zs fs (.lst 3 ks) tb ∧ k2 = l.length - j ∧
          s = ⟨[(6, .ptr 2 0), (68, .lst 1 k), (69, .int .i64 (A.nat k)), (70, .int .i64 q)], [.vw (A.ints .i64 l), .lst 58 2 cs, .box 110 dc, .lst 3 1 (A.ints .i64 sy)]⟩)
        [6, 68, 69, 70] _ ⟨0, 0, _, dc4, rfl, by omega, ?_, hD4, rfl, rfl⟩ ?_
      · intro i hi
        exact ⟨fun _ s hs => by omega, fun h => absurd (hz0 _) h⟩
      rintro k2 _ ⟨q, j, tb, dc5, hq1, hj, hT, hD5, hk2, rfl⟩
      cbv
      refine ifB_intro (fun h => ?_) (fun h => ?_)
      · have hlt := h
        (try simp only [wA hA] at hlt)
        (try rw [h]); clear h
        cbv
        (try simp only [ncast] at *)
        have hLn : Lens l := ⟨hokk, hbig⟩
        have hl4 := hokk.1
        have hkl : k = l.length := by rw [hk, h1 trivial]; simp [codesL]
        have hrl : rs.length = l.length := by rw [h1 trivial]; simp [codesL]
        have hjl : j < l.length := by omega
        have hqj : q.toNat = j := by omega
        refine rwC.sub hA (m := 2) rfl ⟨by omega, by omega⟩ (by omega) fun r hr => ?_
        have hrj : r = rowC l j := by
          rw [hr, hqj, h1 trivial]
          simp [codesL, List.getD, hjl]
        obtain ⟨w, hw, hwp, hw0⟩ := rowC_two hLn hjl
        have hxb := hLn.at j
        obtain ⟨x, hx⟩ : ∃ x, x = l.getD j 0 := ⟨_, rfl⟩
        rw [← hx] at hw hwp hw0 hxb
        rw [hw] at hrj
        obtain ⟨wi, hwi⟩ : ∃ wi : Int, wi = (w : Int) := ⟨_, rfl⟩
        rw [← hwi] at hrj
        clear hr
        subst hrj
        cbv
        refine ifB_intro (fun h => ?_) (fun h => ?_)
        · have hx0 := h
          (try simp only [wA hA] at hx0)
          (try rw [h]); clear h
          cbv
          (try simp only [ncast] at *)
          have hT2 : TbQ l (j + 1) tb := by
            intro i hi
            obtain ⟨a1, a2⟩ := hT i hi
            refine ⟨fun h s hs => ?_, fun h => ?_⟩
            · rcases Nat.lt_or_ge s j with h3 | h3
              · exact a1 h s h3
              · have : s = j := by omega
                subst this
                rintro ⟨h4, _⟩
                omega
            · obtain ⟨s, h3, h4⟩ := a2 h
              exact ⟨s, by omega, h4⟩
          have e : IntKind.i64.wrap (q + 1) = q + 1 := wrap64 (by omega)
          simp only [addA hA]
          subst hag
          refine ⟨l.length - (j + 1), ⟨[(6, .ptr 2 0), (68, .lst 1 k), (69, .int .i64 (A.nat k)), (70, .int .i64 (IntKind.i64.wrap (q + 1)))], [.vw (A.ints .i64 l), .lst 58 2 cs, .box 110 dc5, .lst 3 1 (A.ints .i64 sy)]⟩, by omega, ?_,
            IntKind.i64.wrap (q + 1), j + 1, _, dc5, by omega, by omega, hT2, hD5, rfl, rfl⟩
          subst hA
          have dc0 : ∀ (N : Nat) (H1 : List Ck), 3 < N → H1[2]? = some (.box 110 dc5) → subC 1 N [0, 1, 2, 3] H1 2 2 (.box 110 dc5) :=
            fun N H1 hN h => subC_dc hD5 (show 3 < N from hN) hD5 h
          exact Sc [0, 1, 2, 3] (by repeat' (first | exact dc0 _ _ (Nat.le_of_ble_eq_true rfl) rfl | exact trivial | exact fun _ => rfl | exact fun h => absurd h (by simp) | exact subC_ints rfl | exact subC_rw rwC rfl | exact subC_rwv rwC rfl rfl | refine And.intro ?_ ?_ | rfl | (simp [subH_nil, hLts, hLt, renCk, renC, sg, Ck.cells, R_ints_ren, R_ints_hLts]; done)))
        · have hx0 := h
          (try simp only [wA hA] at hx0)
          (try rw [h]); clear h
          cbv
          (try simp only [ncast] at *)
          refine ifB_intro (fun h => ?_) (fun h => ?_)
          · have hx9 := h
            (try simp only [wA hA] at hx9)
            (try rw [h]); clear h
            cbv
            (try simp only [ncast] at *)
            have hT2 : TbQ l (j + 1) tb := by
              intro i hi
              obtain ⟨a1, a2⟩ := hT i hi
              refine ⟨fun h s hs => ?_, fun h => ?_⟩
              · rcases Nat.lt_or_ge s j with h3 | h3
                · exact a1 h s h3
                · have : s = j := by omega
                  subst this
                  rintro ⟨_, h4, _⟩
                  omega
              · obtain ⟨s, h3, h4⟩ := a2 h
                exact ⟨s, by omega, h4⟩
            have e : IntKind.i64.wrap (q + 1) = q + 1 := wrap64 (by omega)
            simp only [addA hA]
            subst hag
            refine ⟨l.length - (j + 1), ⟨[(6, .ptr 2 0), (68, .lst 1 k), (69, .int .i64 (A.nat k)), (70, .int .i64 (IntKind.i64.wrap (q + 1)))], [.vw (A.ints .i64 l), .lst 58 2 cs, .box 110 dc5, .lst 3 1 (A.ints .i64 sy)]⟩, by omega, ?_,
              IntKind.i64.wrap (q + 1), j + 1, _, dc5, by omega, by omega, hT2, hD5, rfl, rfl⟩
            subst hA
            have dc0 : ∀ (N : Nat) (H1 : List Ck), 3 < N → H1[2]? = some (.box 110 dc5) → subC 1 N [0, 1, 2, 3] H1 2 2 (.box 110 dc5) :=
              fun N H1 hN h => subC_dc hD5 (show 3 < N from hN) hD5 h
            exact Sc [0, 1, 2, 3] (by repeat' (first | exact dc0 _ _ (Nat.le_of_ble_eq_true rfl) rfl | exact trivial | exact fun _ => rfl | exact fun h => absurd h (by simp) | exact subC_ints rfl | exact subC_rw rwC rfl | exact subC_rwv rwC rfl rfl | refine And.intro ?_ ?_ | rfl | (simp [subH_nil, hLts, hLt, renCk, renC, sg, Ck.cells, R_ints_ren, R_ints_hLts]; done)))
          · have hx9 := h
            (try simp only [wA hA] at hx9)
            (try rw [h]); clear h
            cbv
            (try simp only [ncast] at *)
            obtain ⟨hwt, hw2⟩ := hwp (by omega)
            obtain ⟨xn, hxn⟩ : ∃ xn : Nat, x = (xn : Int) := ⟨x.toNat, by omega⟩
            have hxt : x.toNat = xn := by omega
            rw [hxt] at hwt hw2
            have hx9' : xn ≤ 9 := by omega
            have hp9 : 2 ^ xn ≤ 512 := Nat.le_trans (Nat.pow_le_pow_right (by decide) hx9') (by decide)
            have hp0 : 0 < 2 ^ xn := Nat.pow_pos (by decide)
            have hmt : ∀ i : Nat, mtc l j i ↔ i % 2 ^ xn = w := by
              intro i
              unfold mtc
              rw [hw, ← hx, hxt]
              show 0 < x ∧ x ≤ 9 ∧ (i : Int) % 2 ^ xn = (w : Int) ↔ _
              have e : (i : Int) % 2 ^ xn = ((i % 2 ^ xn : Nat) : Int) := by rw [Int.natCast_emod, Int.natCast_pow]; rfl
              rw [e]
              constructor
              · rintro ⟨_, _, h⟩; exact_mod_cast h
              · intro h; exact ⟨by omega, by omega, by exact_mod_cast h⟩
            have hcw : A.wrap .i64 wi = (w : Int) := by rw [wrapA hA, wrap64 (by omega), hwi]
            refine loop_keep (fun k3 s => ∃ (p : Int) (pn : Nat) (tb' : List Int) (dc : List SV), p = (pn : Int) ∧ pn % 2 ^ xn = w ∧ pn ≤ 1024 ∧ TbI l j tb' pn ∧ IsDC dc true lg zs fs (.lst 3 ks) tb' ∧ k3 = 1024 - pn ∧
                s = ⟨[(6, .ptr 2 0), (10, .int .i64 q), (11, .ptr 4 0), (12, .int .i64 p), (68, .lst 1 k), (69, .int .i64 (A.nat k)), (70, .int .i64 q)], [.vw (A.ints .i64 l), .lst 58 2 cs, .box 110 dc, .lst 3 1 (A.ints .i64 sy), .box 58 [.int .u32 wi, .int .i64 x]]⟩)
              [6, 10, 11, 12, 68, 69, 70] _ ⟨A.wrap .i64 wi, w, tb, dc5, hcw, Nat.mod_eq_of_lt hw2, by omega, ?_, hD5, rfl, rfl⟩ ?_
            · intro i hi
              refine ⟨fun h1 h2 => ?_, fun _ => hT i hi⟩
              have h1 := (hmt i).1 h1
              have := Nat.mod_le i (2 ^ xn)
              omega
            rintro k3 _ ⟨p, pn, tb', dc6, hp1, hpm, hp4, hI, hD6, hk3, rfl⟩
            cbv
            refine ifB_intro (fun h => ?_) (fun h => ?_)
            · have hplt := h
              (try simp only [wA hA] at hplt)
              (try rw [h]); clear h
              cbv
              (try simp only [ncast] at *)
              have hpn : pn < 512 := by omega
              have hix : A.ix 37 p 2 = 37 + pn * 2 := by rw [ixA hA, hp1, Int.toNat_natCast]
              refine ⟨by (first | omega | (try simp only [wA hA, wB hA, Go.IntKind.wrap_i64] at *) <;> omega | (try simp only [decide_eq_true_eq, decide_eq_false_iff_not, beq_iff_eq, beq_eq_false_iff_ne, bne_iff_ne, bne_eq_false_iff_eq, Bool.not_eq_true', Bool.not_eq_false', ncast, Int.not_lt, Int.not_le, ne_eq, not_true_eq_false, not_false_eq_true, false_or, true_and, Go.IntKind.wrap_i64] at *) <;> omega), ?_⟩
              (try simp only [ncast] at *)
              refine hD6.stA hA ⟨by omega, by omega⟩ fun dc7 hD7 => ?_
              cbv
              (try simp only [ncast] at *)
              refine ⟨by (first | omega | (try simp only [wA hA, wB hA, Go.IntKind.wrap_i64] at *) <;> omega | (try simp only [decide_eq_true_eq, decide_eq_false_iff_not, beq_iff_eq, beq_eq_false_iff_ne, bne_iff_ne, bne_eq_false_iff_eq, Bool.not_eq_true', Bool.not_eq_false', ncast, Int.not_lt, Int.not_le, ne_eq, not_true_eq_false, not_false_eq_true, false_or, true_and, Go.IntKind.wrap_i64] at *) <;> omega), ?_⟩
              refine hD7.stB hA ⟨by omega, by omega⟩ fun dc8 hD8 => ?_
              cbv
              (try simp only [ncast] at *)
              refine ⟨by (first | omega | (try simp only [wA hA, wB hA, Go.IntKind.wrap_i64] at *) <;> omega | (try simp only [decide_eq_true_eq, decide_eq_false_iff_not, beq_iff_eq, beq_eq_false_iff_ne, bne_iff_ne, bne_eq_false_iff_eq, Bool.not_eq_true', Bool.not_eq_false', ncast, Int.not_lt, Int.not_le, ne_eq, not_true_eq_false, not_false_eq_true, false_or, true_and, Go.IntKind.wrap_i64] at *) <;> omega), ?_⟩
              have hpt : p.toNat = pn := by omega
              have hw1 : A.wrap .i16 q = (j : Int) := by rw [wrapA hA, wrap16 (by omega)]; omega
              have hw2 : A.wrap .i16 x = x := by rw [wrapA hA, wrap16 (by omega)]
              have hsh : A.bin .shl .i64 1 x = ((2 ^ xn : Nat) : Int) := by
                have e : ((2 ^ xn : Nat) : Int) = (2 : Int) ^ xn := Int.natCast_pow 2 xn
                rw [shlA hA, hxn, shl64i (n := xn) (by omega) (by omega) (by rw [Int.one_mul]; omega), Int.one_mul, e]
              have hadd : A.bin .add .i64 p (A.bin .shl .i64 1 x) = ((pn + 2 ^ xn : Nat) : Int) := by
                rw [addA hA, hsh, wrap64 (by omega)]
                omega
              obtain ⟨p2, hp2⟩ : ∃ p2, p2 = A.bin .add .i64 p (A.bin .shl .i64 1 x) := ⟨_, rfl⟩
              obtain ⟨tb2, htb2⟩ : ∃ tb2, tb2 = (tb'.set (p.toNat * 2) (A.wrap .i16 q)).set (p.toNat * 2 + 1) (A.wrap .i16 x) := ⟨_, rfl⟩
              have hD8' : IsDC dc8 true lg zs fs (.lst 3 ks) tb2 := by rw [htb2]; exact hD8
              have htl := hD6.tl
              rw [hpt, hw1, hw2] at htb2
              have g0 : ∀ i, i < 512 → tb2.getD (i * 2) 0 = if i = pn then (j : Int) else tb'.getD (i * 2) 0 := by
                intro i hi
                rw [htb2]
                simp only [List.getD, List.getElem?_set, List.length_set]
                by_cases hip : i = pn
                · subst hip
                  rw [if_neg (by omega), if_pos rfl, if_pos (by omega), if_pos rfl]; rfl
                · rw [if_neg (by omega), if_neg (by omega), if_neg hip]
              have g1 : ∀ i, i < 512 → tb2.getD (i * 2 + 1) 0 = if i = pn then x else tb'.getD (i * 2 + 1) 0 := by
                intro i hi
                rw [htb2]
                simp only [List.getD, List.getElem?_set, List.length_set]
                by_cases hip : i = pn
                · subst hip
                  rw [if_pos rfl, if_pos (by omega), if_pos rfl]; rfl
                · rw [if_neg (by omega), if_neg (by omega), if_neg hip]
              have hI2 : TbI l j tb2 (pn + 2 ^ xn) := by
                intro i hi
                obtain ⟨a1, a2⟩ := hI i hi
                refine ⟨fun hm hlt2 => ?_, fun hno => ?_⟩
                · rw [g0 i hi, g1 i hi]
                  by_cases hip : i = pn
                  · rw [if_pos hip, if_pos hip]; exact ⟨rfl, hx⟩
                  · rw [if_neg hip, if_neg hip]
                    refine a1 hm ?_
                    have hm2 := (hmt i).1 hm
                    rcases Nat.lt_or_ge i pn with h5 | h5
                    · exact h5
                    · exfalso
                      have e1 := Nat.div_add_mod i (2 ^ xn)
                      have e2 := Nat.div_add_mod pn (2 ^ xn)
                      rw [hm2] at e1
                      rw [hpm] at e2
                      rcases Nat.lt_trichotomy (i / 2 ^ xn) (pn / 2 ^ xn) with h6 | h6 | h6
                      · have := Nat.mul_le_mul_left (2 ^ xn) (show i / 2 ^ xn + 1 ≤ pn / 2 ^ xn from h6)
                        rw [Nat.mul_add, Nat.mul_one] at this
                        omega
                      · rw [h6] at e1; omega
                      · have := Nat.mul_le_mul_left (2 ^ xn) (show pn / 2 ^ xn + 1 ≤ i / 2 ^ xn from h6)
                        rw [Nat.mul_add, Nat.mul_one] at this
                        omega
                · have hip : i ≠ pn := by
                    intro e
                    exact hno ⟨(hmt i).2 (by rw [e]; exact hpm), by omega⟩
                  have h7 := a2 (fun h => hno ⟨h.1, by omega⟩)
                  unfold Tb1 at h7 ⊢
                  rw [g0 i hi, g1 i hi, if_neg hip, if_neg hip]
                  exact h7
              simp only [← hp2]
              subst hag
              refine ⟨1024 - (pn + 2 ^ xn), ⟨[(6, .ptr 2 0), (10, .int .i64 q), (11, .ptr 4 0), (12, .int .i64 p2), (68, .lst 1 k), (69, .int .i64 (A.nat k)), (70, .int .i64 q)], [.vw (A.ints .i64 l), .lst 58 2 cs, .box 110 dc8, .lst 3 1 (A.ints .i64 sy), .box 58 [.int .u32 wi, .int .i64 x]]⟩, by omega, ?_,
                p2, pn + 2 ^ xn, tb2, dc8, by rw [hp2, hadd], ?_, by omega, hI2, hD8', rfl, rfl⟩
              · subst hA
                have dc0 : ∀ (N : Nat) (H1 : List Ck), 3 < N → H1[2]? = some (.box 110 dc8) → subC 1 N [0, 1, 2, 3, 4] H1 2 2 (.box 110 dc8) :=
                  fun N H1 hN h => subC_dc hD8' (show 3 < N from hN) hD8' h
                exact Sc [0, 1, 2, 3, 4] (by repeat' (first | exact dc0 _ _ (Nat.le_of_ble_eq_true rfl) rfl | exact trivial | exact fun _ => rfl | exact fun h => absurd h (by simp) | exact subC_ints rfl | exact subC_rw rwC rfl | exact subC_rwv rwC rfl rfl | refine And.intro ?_ ?_ | rfl | (simp [subH_nil, hLts, hLt, renCk, renC, sg, Ck.cells, R_ints_ren, R_ints_hLts]; done)))
              · rw [Nat.add_mod_right]; exact hpm
            · have hpge := h
              (try simp only [wA hA] at hpge)
              (try rw [h]); clear h
              cbv
              (try simp only [ncast] at *)
              have hT2 : TbQ l (j + 1) tb' := by
                intro i hi
                obtain ⟨a1, a2⟩ := hI i hi
                by_cases hm : mtc l j i
                · obtain ⟨b1, b2⟩ := a1 hm (by omega)
                  refine ⟨fun h => ?_, fun _ => ⟨j, by omega, hm, b1, b2⟩⟩
                  rw [b2] at h; omega
                · obtain ⟨b1, b2⟩ := a2 (fun h => hm h.1)
                  refine ⟨fun h s hs => ?_, fun h => ?_⟩
                  · rcases Nat.lt_or_ge s j with h3 | h3
                    · exact b1 h s h3
                    · rw [show s = j by omega]; exact hm
                  · obtain ⟨s, h3, h4⟩ := b2 h
                    exact ⟨s, by omega, h4⟩
              have e : IntKind.i64.wrap (q + 1) = q + 1 := wrap64 (by omega)
              simp only [addA hA]
              subst hag
              refine ⟨l.length - (j + 1), ⟨[(6, .ptr 2 0), (68, .lst 1 k), (69, .int .i64 (A.nat k)), (70, .int .i64 (IntKind.i64.wrap (q + 1)))], [.vw (A.ints .i64 l), .lst 58 2 cs, .box 110 dc6, .lst 3 1 (A.ints .i64 sy)]⟩, by omega, ?_,
                IntKind.i64.wrap (q + 1), j + 1, _, dc6, by omega, by omega, hT2, hD6, rfl, rfl⟩
              subst hA
              have dc0 : ∀ (N : Nat) (H1 : List Ck), 3 < N → H1[2]? = some (.box 110 dc6) → subC 1 N [0, 1, 2, 3] H1 2 2 (.box 110 dc6) :=
                fun N H1 hN h => subC_dc hD6 (show 3 < N from hN) hD6 h
              exact Sc [0, 1, 2, 3] (by repeat' (first | exact dc0 _ _ (Nat.le_of_ble_eq_true rfl) rfl | exact trivial | exact fun _ => rfl | exact fun h => absurd h (by simp) | exact subC_ints rfl | exact subC_rw rwC rfl | exact subC_rwv rwC rfl rfl | refine And.intro ?_ ?_ | rfl | (simp [subH_nil, hLts, hLt, renCk, renC, sg, Ck.cells, R_ints_ren, R_ints_hLts]; done)))
      · have hge := h
        (try simp only [wA hA] at hge)
        (try rw [h]); clear h
        cbv
        (try simp only [ncast] at *)
        have hkl : k = l.length := by rw [hk, h1 trivial]; simp [codesL]
        have hjl : j = l.length := by omega
        rw [hjl] at hT
        rw [hzs, hfs, hlg, hzs] at hD5
        have hks2 : ks = (syA l 16).length := by rw [← hsy]; exact hks
        have hfin : ∀ H, H = [.vw (R.ints .i64 l), .box 110 (dc5.set 36 (.lst 2 ks)), .lst 3 1 (R.ints .i64 sy)] → NewQ l (.tup [.ptr 1 0, .int .i64 0]) H := by
          intro H hH
          rw [hsy] at hH
          exact .inr ⟨_, ks, tb, hW, hD5.setS _, hks2, hT, rfl, hH⟩
        clear hsy hlg hks2
        subst hA hq
        refine Fin_of ⟨[(2, .ptr 1 0), (3, .int .i64 0)], [.vw (R.ints .i64 l), .box 110 (dc5.set 36 (.lst 2 ks)), .lst 3 1 (R.ints .i64 sy)]⟩ ?_ (hfin _ rfl)
        have dc0 : ∀ (N : Nat) (H1 : List Ck), 2 < N → H1[2]? = some (.box 110 dc5) → subC 1 N [0, 2, 3] H1 1 2 (.box 110 (dc5.set 36 (.lst 2 ks))) :=
          fun N H1 hN h => subC_dc (hD5.setS _) (show 2 < N from hN) hD5 h
        exact Sc [0, 2, 3] (by repeat' (first | exact dc0 _ _ (Nat.le_of_ble_eq_true rfl) rfl | exact trivial | exact fun _ => rfl | exact fun h => absurd h (by simp) | exact subC_ints rfl | refine And.intro ?_ ?_ | rfl | (simp [subH_nil, hLts, hLt, renCk, renC, sg, Ck.cells, R_ints_ren, R_ints_hLts]; done)))
end Go.Sx

/- canon: a decoder looks for a word bit by bit. -/
set_option maxRecDepth 100000
set_option maxHeartbeats 4000000
set_option linter.unusedVariables false
set_option linter.unusedSimpArgs false
namespace Go.Sx
open Go.Proofs.Tryd

theorem selT_cn (l : List Int) (x : Nat) : ∀ j, j ≤ l.length → ((selT l x j).length : Int) = cn (l.take j) x
  | 0, _ => by simp [selT, cn]
  | j + 1, h => by
    have ih := selT_cn l x j (by omega)
    rw [cn_take l x j (by omega)]
    simp only [selT, List.length_append]
    split <;> simp <;> omega
theorem selT_at (l : List Int) (x : Nat) : ∀ j, j ≤ l.length → ∀ k, k < (selT l x j).length → ∃ s, s < j ∧ l.getD s 0 = (x : Int) ∧ cn (l.take s) x = (k : Int) ∧ (selT l x j)[k]? = some (s : Int)
  | 0, _, k, hk => by simp [selT] at hk
  | j + 1, h, k, hk => by
    have ih := selT_at l x j (by omega)
    have hc := selT_cn l x j (by omega)
    simp only [selT, List.length_append] at hk ⊢
    rcases Nat.lt_or_ge k (selT l x j).length with h1 | h1
    · obtain ⟨s, h2, h3, h4, h5⟩ := ih k h1
      exact ⟨s, by omega, h3, h4, by rw [List.getElem?_append_left h1]; exact h5⟩
    · by_cases hx : l.getD j 0 = (x : Int)
      · rw [if_pos hx] at hk ⊢
        simp at hk
        have : k = (selT l x j).length := by omega
        subst this
        exact ⟨j, by omega, hx, hc.symm, by simp⟩
      · rw [if_neg hx] at hk
        simp at hk
        omega
theorem syA_pre (l : List Int) (x : Nat) : ∀ d, ∃ r, syA l (x + d) = syA l x ++ r
  | 0 => ⟨[], by simp⟩
  | d + 1 => by
    obtain ⟨r, hr⟩ := syA_pre l x d
    exact ⟨r ++ selT l (x + d + 1) l.length, by show syA l (x + d) ++ selT l (x + d + 1) l.length = _; rw [hr, List.append_assoc]⟩
theorem syA_at (l : List Int) {x k : Nat} (hx : x < 16) (hk : k < (selT l (x + 1) l.length).length) : (syA l 16)[(syA l x).length + k]? = (selT l (x + 1) l.length)[k]? := by
  obtain ⟨r, hr⟩ := syA_pre l (x + 1) (16 - (x + 1))
  rw [show x + 1 + (16 - (x + 1)) = 16 by omega] at hr
  rw [hr]
  show ((syA l x ++ selT l (x + 1) l.length) ++ r)[_]? = _
  rw [List.append_assoc, List.getElem?_append_right (by omega), Nat.add_sub_cancel_left, List.getElem?_append_left hk]
theorem selT_cvec (l : List Int) {x : Nat} (hx : x < 16) : ((selT l (x + 1) l.length).length : Int) = (cvec l).getD (x + 1) 0 := by
  rw [selT_cn l (x + 1) l.length (Nat.le_refl _), List.take_length, cvec_at l _ (by omega) (by omega)]
theorem fvec_at (zs : List Int) {x : Nat} (hx : x < 17) : (fvec zs).getD x 0 = fst1 zs x := by simp [fvec, List.getD, hx]

theorem lgA_bnd (l : List Int) : ∀ x, 0 ≤ lgA l x ∧ lgA l x ≤ x
  | 0 => by simp [lgA]
  | x + 1 => by
    have := lgA_bnd l x
    simp only [lgA]
    split <;> omega
theorem lgA_max (l : List Int) : ∀ (x s : Nat), s < l.length → 0 < l.getD s 0 → l.getD s 0 ≤ x → l.getD s 0 ≤ lgA l x
  | 0, s, _, h0, h1 => by omega
  | x + 1, s, hs, h0, h1 => by
    simp only [lgA]
    split
    · rename_i h
      refine lgA_max l x s hs h0 ?_
      by_cases h2 : l.getD s 0 < ((x + 1 : Nat) : Int)
      · omega
      · exfalso
        have h3 := selT_cn l (x + 1) l.length (Nat.le_refl _)
        rw [h, List.take_length] at h3
        have h4 := cn_ltl l s hs (x + 1) (by omega)
        have h5 := cn_ge0 (l.take s) (x + 1)
        simp at h3
        omega
    · omega
theorem lgA_hit (l : List Int) : ∀ x, 0 < lgA l x → ∃ s, s < l.length ∧ l.getD s 0 = lgA l x
  | 0, h => by simp [lgA] at h
  | x + 1, h => by
    simp only [lgA] at h ⊢
    split
    · rename_i h1
      rw [if_pos h1] at h
      exact lgA_hit l x h
    · rename_i h1
      have h2 : 0 < (selT l (x + 1) l.length).length := by
        cases hh : selT l (x + 1) l.length with
        | nil => exact absurd hh h1
        | cons a b => simp
      obtain ⟨s, h3, h4, _⟩ := selT_at l (x + 1) l.length (Nat.le_refl _) 0 h2
      exact ⟨s, h3, h4⟩

/-- A decoder of lengths. -/
structure DecQ (l : List Int) (lg : Int) (sy tb : List Int) : Prop where
  lens : Lens l
  lg0 : 0 ≤ lg ∧ lg ≤ 16
  max : ∀ s, s < l.length → 0 < l.getD s 0 → l.getD s 0 ≤ lg
  hit : 0 < lg → ∃ s, s < l.length ∧ l.getD s 0 = lg
  sya : ∀ x k : Nat, x < 16 → k < (selT l (x + 1) l.length).length → sy[(syA l x).length + k]? = (selT l (x + 1) l.length)[k]?
  tb : TbQ l l.length tb
  syl : sy.length ≤ 70000

/-- What is found bit by bit. -/
def SlowQ (l : List Int) (b : Nat) (y n : Int) : Prop := (∃ s, st l b s ∧ y = (s : Int) ∧ n = l.getD s 0) ∨ ((∀ s, ¬ st l b s) ∧ y = -1 ∧ n = 0)

theorem or2 {a : Int} {b : Int} (h0 : 0 ≤ a ∧ a < 1000000) (hb : 0 ≤ b ∧ b < 2) : bor .i64 (a * 2 ^ 1) b = a * 2 + b := by
  have e63 : (2 : Int) ^ 63 = 9223372036854775808 := by decide
  have e1 : a * 2 ^ 1 = a * 2 := by omega
  have h := bits_join .i64 63 (by decide) (fun n h0 h1 => wrap64 (by omega)) 1 (a * 2 ^ 1) b (by omega) (Int.mul_emod_left _ _) (by rw [e1, e63]; omega) hb.1 (by omega) (by omega)
  rw [show bor .i64 (a * 2 ^ 1) b = a * 2 ^ 1 + b from h]
  omega
theorem and1 {b : Nat} (hb : b < 2 ^ 32) : band .u32 (b : Int) 1 = ((b % 2 : Nat) : Int) := by
  have h := band32 (a := b) (b := 1) hb (by decide)
  rw [Nat.and_one_is_mod] at h
  exact h

/-- Where no shorter word stands, and none of this length, none stands. -/
theorem slow_no {l : List Int} (h : Lens l) {b x : Nat} (hx : x < 16) (hk : ¬ (0 ≤ (TN b (x + 1) : Int) - fst1 (cvec l) (x + 1) ∧ (TN b (x + 1) : Int) - fst1 (cvec l) (x + 1) < (cvec l).getD (x + 1) 0)) (s : Nat) (hs : l.getD s 0 = ((x + 1 : Nat) : Int)) : ¬ st l b s := by
  rintro ⟨h1, h2, h3⟩
  have c1 := cw_eq h s
  have r1 := cw_room h h1 h2
  rw [hs, Int.toNat_natCast] at h3 r1
  have h5 := cn_ge0 (l.take s) (x + 1)
  unfold cwI at c1 r1
  rw [hs, Int.toNat_natCast] at c1 r1
  apply hk
  omega
theorem slow_yes {l : List Int} (h : Lens l) {b x k : Nat} (hx : x < 16) (hk : (TN b (x + 1) : Int) = fst1 (cvec l) (x + 1) + k) (hk2 : (k : Int) < (cvec l).getD (x + 1) 0) :
    ∃ s, st l b s ∧ l.getD s 0 = ((x + 1 : Nat) : Int) ∧ (selT l (x + 1) l.length)[k]? = some (s : Int) ∧ k < (selT l (x + 1) l.length).length := by
  have hc := selT_cvec l hx
  obtain ⟨s, h1, h2, h3, h4⟩ := selT_at l (x + 1) l.length (Nat.le_refl _) k (by omega)
  refine ⟨s, ⟨h1, by omega, ?_⟩, h2, h4, by omega⟩
  have c1 := cw_eq h s
  unfold cwI at c1
  rw [h2, Int.toNat_natCast] at c1 ⊢
  omega

theorem dc_v {M N : Nat} {σ : List Nat} {H1 : List Ck} {i : Nat} {dc : List SV} {m : Bool} {lg : Int} {n f : List Int} {h ks : Nat} {tb : List Int} (hD : IsDC dc m lg n f (.lst h ks) tb) (hs : h < N) (hr : sg σ h = (h, 0)) (hj : H1[i]? = some (.vw dc)) : subC M N σ H1 i i (.vw dc) := by
  refine ⟨rfl, hD.hl hs, hj, ?_⟩
  have h1 := hD.mapR (sg σ)
  have e : renC (sg σ) (.lst h ks) = .lst h ks := by simp [renC, hr]
  rw [e] at h1
  exact h1.uniq hD

theorem s_slow (l : List Int) (lg : Int) (sy tb : List Int) (ks b : Nat) (dc : List SV) (hQ : DecQ l lg sy tb) (hD : IsDC dc true lg (cvec l) (fvec (cvec l)) (.lst 1 ks) tb) (hks : ks = sy.length) (hb : b < 2 ^ 32) :
    Spec prog 63 [.ptr 0 0, .int .u32 (b : Int)] [.vw dc, .vw (R.ints .i64 sy)] (fun r H => ∃ y n, SlowQ l b y n ∧ r = .tup [.int .i64 y, .int .i64 n] ∧ H = [.vw dc, .vw (R.ints .i64 sy)]) := by
  obtain ⟨bi, hbi⟩ : ∃ bi : Int, bi = (b : Int) := ⟨_, rfl⟩
  rw [← hbi]
  obtain ⟨cv, hcv⟩ : ∃ cv, cv = cvec l := ⟨_, rfl⟩
  obtain ⟨fv, hfv⟩ : ∃ fv, fv = fvec cv := ⟨_, rfl⟩
  rw [← hcv, ← hfv] at hD
  refine Spec_of_kX (D := fun i => (0, [])) (ks := [0, 1, 4, 5, 6, 7, 8, 9]) tok mixed (fn := f63) rfl rfl rfl (by kernel_rfl) (N := 64) rfl (rs := [.tmp 4, .tmp 5]) rfl (Nat.le_of_ble_eq_true rfl) fun A C Kp E ag L q hA hC hK hE hag hL hq => ?_
  rw [← hA]
  cbv
  (try simp only [ncast] at *)
  rw [hL]
  refine loop_keep (fun kk s => ∃ (i code bits at_ : Int) (x : Nat), x ≤ 16 ∧ i = ((x + 1 : Nat) : Int) ∧ (x : Int) ≤ lg ∧ code = (TN b x : Int) ∧ bits = ((b / 2 ^ x : Nat) : Int) ∧ at_ = ((syA l x).length : Int) ∧ (∀ s, 0 < l.getD s 0 → l.getD s 0 ≤ (x : Int) → ¬ st l b s) ∧ kk = 17 - x ∧
      s = ⟨[(0, .ptr 0 0), (1, .int .u32 bits), (4, .int .i64 0), (5, .int .i64 0), (6, .int .i64 code), (7, .int .i64 at_), (8, .int .i64 i)], [.vw dc, .vw (A.ints .i64 sy)]⟩)
    [0, 1, 4, 5, 6, 7, 8] 17 ⟨1, 0, bi, 0, 0, by omega, rfl, by have := hQ.lg0; omega, rfl, by rw [hbi]; simp, rfl, fun s h1 h2 => by omega, rfl, rfl⟩ ?_
  rintro kk _ ⟨i, code, bits, at_, x, hx, hi, hxl, hcode, hbits, hat, hno, hkk, rfl⟩
  cbv
  (try simp only [ncast] at *)
  refine bindO_some hD.r1 ?_
  cbv
  (try simp only [ncast] at *)
  refine ifB_intro (fun h => ?_) (fun h => ?_)
  · have hle := h
    (try simp only [wA hA] at hle)
    (try rw [h]); clear h
    cbv
    (try simp only [ncast] at *)
    have hlg := hQ.lg0
    have hx15 : x < 16 := by omega
    have hbx : b / 2 ^ x < 2 ^ 32 := Nat.lt_of_le_of_lt (Nat.div_le_self _ _) hb
    have hTx : TN b x < 65536 := Nat.lt_of_lt_of_le (TN_lt b x) (Nat.le_trans (Nat.pow_le_pow_right (by decide) hx) (by decide))
    have hTx1 : TN b (x + 1) < 131072 := Nat.lt_of_lt_of_le (TN_lt b (x + 1)) (Nat.le_trans (Nat.pow_le_pow_right (by decide) (by omega : x + 1 ≤ 17)) (by decide))
    obtain ⟨tv, htv⟩ : ∃ tv : Int, tv = (TN b (x + 1) : Int) := ⟨_, rfl⟩
    obtain ⟨f1, hf1⟩ : ∃ f1 : Int, f1 = fst1 (cvec l) (x + 1) := ⟨_, rfl⟩
    obtain ⟨sl, hsl⟩ : ∃ sl : Nat, sl = (syA l x).length := ⟨_, rfl⟩
    obtain ⟨sl1, hsl1⟩ : ∃ sl1 : Nat, sl1 = (syA l (x + 1)).length := ⟨_, rfl⟩
    obtain ⟨tl, htl⟩ : ∃ tl : Nat, tl = (selT l (x + 1) l.length).length := ⟨_, rfl⟩
    have hss : sl1 = sl + tl := by rw [hsl1, hsl, htl]; simp only [syA, List.length_append]
    rw [← hsl] at hat
    have hcode2 : A.bin .or .i64 (A.bin .shl .i64 code 1) (A.wrap .i64 (A.bin .and .u32 bits 1)) = (TN b (x + 1) : Int) := by
      have e1 : shlI .i64 code 1 = code * 2 ^ 1 := shl64i (n := 1) (by omega) (by omega) (by omega)
      rw [orA hA, shlA hA, wrapA hA, andA hA, e1, hbits, and1 hbx, wrap64 (by omega), or2 (by omega) (by omega), hcode]
      rfl
    have hbits2 : A.bin .shr .u32 bits 1 = ((b / 2 ^ (x + 1) : Nat) : Int) := by
      have e1 : shrI .u32 bits 1 = (((b / 2 ^ x) >>> 1 : Nat) : Int) := by rw [hbits]; exact shr32 _ 1 (by decide)
      rw [shrA hA, e1, Nat.shiftRight_eq_div_pow, Nat.div_div_eq_div_mul, ← Nat.pow_add]
    obtain ⟨code2, hc2⟩ : ∃ code2, code2 = A.bin .or .i64 (A.bin .shl .i64 code 1) (A.wrap .i64 (A.bin .and .u32 bits 1)) := ⟨_, rfl⟩
    obtain ⟨bits2, hb2⟩ : ∃ bits2, bits2 = A.bin .shr .u32 bits 1 := ⟨_, rfl⟩
    simp only [← hc2, ← hb2]
    rw [← hc2] at hcode2
    rw [← hb2] at hbits2
    clear hc2 hb2
    refine ⟨by (first | omega | (try simp only [wA hA, wB hA, Go.IntKind.wrap_i64] at *) <;> omega | (try simp only [decide_eq_true_eq, decide_eq_false_iff_not, beq_iff_eq, beq_eq_false_iff_ne, bne_iff_ne, bne_eq_false_iff_eq, Bool.not_eq_true', Bool.not_eq_false', ncast, Int.not_lt, Int.not_le, ne_eq, not_true_eq_false, not_false_eq_true, false_or, true_and, Go.IntKind.wrap_i64] at *) <;> omega), ?_⟩
    refine ⟨by (first | omega | (try simp only [wA hA, wB hA, Go.IntKind.wrap_i64] at *) <;> omega | (try simp only [decide_eq_true_eq, decide_eq_false_iff_not, beq_iff_eq, beq_eq_false_iff_ne, bne_iff_ne, bne_eq_false_iff_eq, Bool.not_eq_true', Bool.not_eq_false', ncast, Int.not_lt, Int.not_le, ne_eq, not_true_eq_false, not_false_eq_true, false_or, true_and, Go.IntKind.wrap_i64] at *) <;> omega), ?_⟩
    refine hD.rf hA ⟨by omega, by omega⟩ fun v hv => ?_
    cbv
    (try simp only [ncast] at *)
    have hit : i.toNat = x + 1 := by omega
    have hv2 : v = fst1 (cvec l) (x + 1) := by rw [hv, hit, hfv, hcv, fvec_at _ (by omega)]
    have hfb := fst1_bnd (zs := cvec l) (fun q => hQ.lens.vec q) (x + 1)
    have hpw : (2 : Int) ^ (x + 1) ≤ 65536 := by
      have h1 : (2 : Nat) ^ (x + 1) ≤ 65536 := Nat.le_trans (Nat.pow_le_pow_right (by decide) (show x + 1 ≤ 16 by omega)) (by decide)
      have e : ((2 ^ (x + 1) : Nat) : Int) = (2 : Int) ^ (x + 1) := Int.natCast_pow 2 (x + 1)
      rw [← e]; exact Int.ofNat_le.2 h1
    have hk2 : A.bin .sub .i64 code2 v = tv - f1 := by rw [subA' hA, wrap64 (by omega), hv2]; omega
    obtain ⟨k, hk⟩ : ∃ k, k = A.bin .sub .i64 code2 v := ⟨_, rfl⟩
    simp only [← hk]
    rw [← hk] at hk2
    clear hk
    have hsy0 : sl ≤ 65536 := by
      have h1 := syA_len l x
      have h3 : x * l.length ≤ 16 * 4096 := Nat.mul_le_mul (by omega) hQ.lens.len
      omega
    have hcb := hQ.lens.vec (x + 1)
    obtain ⟨c1, hc1⟩ : ∃ c1 : Int, c1 = (cvec l).getD (x + 1) 0 := ⟨_, rfl⟩
    have hsc := selT_cvec l hx15
    rw [← htl, ← hc1] at hsc
    rw [← hc1] at hcb
    have hsl2 := selT_len l (x + 1) l.length
    rw [← htl] at hsl2
    have hW : (¬ (0 ≤ k ∧ k < c1)) → ∀ s, l.getD s 0 = ((x + 1 : Nat) : Int) → ¬ st l b s := fun h s hs => slow_no hQ.lens hx15 (by rw [← htv, ← hf1, ← hc1, ← hk2]; exact h) s hs
    have hln := hQ.lens.len
    refine ifB_intro (fun h => ?_) (fun h => ?_)
    · have hk0 := h
      (try simp only [wA hA] at hk0)
      (try rw [h]); clear h
      cbv
      (try simp only [ncast] at *)
      refine hD.rn hA ⟨by omega, by omega⟩ fun w hw => ?_
      cbv
      (try simp only [ncast] at *)
      have hw3 : w = c1 := by rw [hw, hit, hcv, hc1]
      refine ifB_intro (fun h => ?_) (fun h => ?_)
      · have hkw := h
        (try simp only [wA hA] at hkw)
        (try rw [h]); clear h
        cbv
        (try simp only [ncast] at *)
        refine bindO_some hD.rs ?_
        cbv
        (try simp only [ncast] at *)
        obtain ⟨kn, hkn⟩ : ∃ kn : Nat, k = (kn : Int) := ⟨k.toNat, by omega⟩
        obtain ⟨s, g1, g2, g3, g4⟩ := slow_yes hQ.lens (b := b) (k := kn) hx15 (by rw [← htv, ← hf1]; omega) (by rw [← hc1]; omega)
        have g5 := hQ.sya x kn hx15 g4
        rw [← hsl] at g5
        have g6 : sl + kn < sy.length := by
          rw [g3] at g5
          exact (List.getElem?_eq_some_iff.1 g5).1
        have hadd : A.bin .add .i64 at_ k = ((sl + kn : Nat) : Int) := by rw [addA hA, wrap64 (by omega)]; omega
        obtain ⟨p, hp⟩ : ∃ p, p = A.bin .add .i64 at_ k := ⟨_, rfl⟩
        simp only [← hp]
        rw [← hp] at hadd
        clear hp
        refine rdA hA (by omega) (by omega) fun y hy => ?_
        cbv
        (try simp only [ncast] at *)
        subst hA hq
        refine ⟨y, i, .inl ⟨s, g1, ?_, by omega⟩, rfl, rfl⟩
        have e : 0 + p.toNat = sl + kn := by omega
        rw [hy, e, List.getD, g5, g3]
        rfl
      · have hkw := h
        (try simp only [wA hA] at hkw)
        (try rw [h]); clear h
        cbv
        (try simp only [ncast] at *)
        refine hD.rn hA ⟨by omega, by omega⟩ fun w2 hw2 => ?_
        cbv
        (try simp only [ncast] at *)
        have hw3 : w2 = c1 := by rw [hw2, hit, hcv, hc1]
        have hat2 : A.bin .add .i64 at_ w2 = (sl1 : Int) := by
          rw [addA hA, wrap64 (by omega)]
          omega
        have hi2 : A.bin .add .i64 i 1 = i + 1 := by rw [addA hA, wrap64 (by omega)]
        have hno2 : ∀ s, 0 < l.getD s 0 → l.getD s 0 ≤ ((x + 1 : Nat) : Int) → ¬ st l b s := by
          intro s h1 h2
          by_cases h3 : l.getD s 0 ≤ (x : Int)
          · exact hno s h1 h3
          · exact hW (by omega) s (by omega)
        obtain ⟨at2, hat3⟩ : ∃ at2, at2 = A.bin .add .i64 at_ w2 := ⟨_, rfl⟩
        obtain ⟨i2, hi3⟩ : ∃ i2, i2 = A.bin .add .i64 i 1 := ⟨_, rfl⟩
        simp only [← hat3, ← hi3]
        rw [← hat3] at hat2
        rw [← hi3] at hi2
        clear hat3 hi3
        subst hag
        exact again_keep [0, 1, 4, 5, 6, 7, 8] (17 - (x + 1)) (by omega) ⟨i2, code2, bits2, at2, x + 1, by omega, by omega, by omega, by omega, by omega, by rw [← hsl1]; omega, hno2, rfl, rfl⟩
    · have hk0 := h
      (try simp only [wA hA] at hk0)
      (try rw [h]); clear h
      cbv
      (try simp only [ncast] at *)
      refine hD.rn hA ⟨by omega, by omega⟩ fun w2 hw2 => ?_
      cbv
      (try simp only [ncast] at *)
      have hw3 : w2 = c1 := by rw [hw2, hit, hcv, hc1]
      have hat2 : A.bin .add .i64 at_ w2 = (sl1 : Int) := by
        rw [addA hA, wrap64 (by omega)]
        omega
      have hi2 : A.bin .add .i64 i 1 = i + 1 := by rw [addA hA, wrap64 (by omega)]
      have hno2 : ∀ s, 0 < l.getD s 0 → l.getD s 0 ≤ ((x + 1 : Nat) : Int) → ¬ st l b s := by
        intro s h1 h2
        by_cases h3 : l.getD s 0 ≤ (x : Int)
        · exact hno s h1 h3
        · exact hW (by omega) s (by omega)
      obtain ⟨at2, hat3⟩ : ∃ at2, at2 = A.bin .add .i64 at_ w2 := ⟨_, rfl⟩
      obtain ⟨i2, hi3⟩ : ∃ i2, i2 = A.bin .add .i64 i 1 := ⟨_, rfl⟩
      simp only [← hat3, ← hi3]
      rw [← hat3] at hat2
      rw [← hi3] at hi2
      clear hat3 hi3
      subst hag
      exact again_keep [0, 1, 4, 5, 6, 7, 8] (17 - (x + 1)) (by omega) ⟨i2, code2, bits2, at2, x + 1, by omega, by omega, by omega, by omega, by omega, by rw [← hsl1]; omega, hno2, rfl, rfl⟩
  · have hgt := h
    (try simp only [wA hA] at hgt)
    (try rw [h]); clear h
    cbv
    subst hA hq
    refine ⟨-1, 0, .inr ⟨fun s hs => ?_, rfl, rfl⟩, rfl, rfl⟩
    have h1 := hQ.max s hs.1 hs.2.1
    exact hno s hs.2.1 (by simp only [ncast] at *; omega) hs
end Go.Sx

/- The reader's other functions, and calls of them. -/
set_option maxRecDepth 100000
set_option maxHeartbeats 4000000
set_option linter.unusedVariables false
set_option linter.unusedSimpArgs false
namespace Go.Sx
open Go.Proofs.Tryd

section
variable {A : Ar} {C : CallT} {xs : List Int} {m p a b : Nat} {at_ hold nb er : Int} {hb hr : Nat} {s : St} {κ : List Nat → SV → List Ck → Prop}

theorem rdV {g : Nat → Nat × Nat} {n : Nat} (h4 : s.H[hb]? = some (.box 70 [.lst hr m, .int .i64 at_, .int .u64 hold, .int .i64 nb, .int .i64 er, .bool true])) (hr' : hr < s.H.length) :
    matchH 2 (linkOf n [(hb, 0, false), (hr, 0, false)]) s.H [(hb, 0, false), (hr, 0, false)] [.vw [.lst 1 m, .int .i64 at_, .int .u64 hold, .int .i64 nb, .int .i64 er, .bool true], .vw []] := by
  refine ⟨⟨(show 1 < 2 by omega), trivial, trivial, trivial, trivial, trivial, trivial⟩, ⟨rfl, trivial, trivial, trivial, trivial, trivial, trivial⟩, ?_, trivial, trivial, ?_, trivial⟩
  · rw [cellsAt_eq h4 (by simp [Ck.cells])]; rfl
  · rw [cellsAt_eq (List.getElem?_eq_getElem hr') (by simp)]; rfl

theorem call_err (hC : C = CallX prog) (h4 : s.H[hb]? = some (.box 70 [.lst hr m, .int .i64 at_, .int .u64 hold, .int .i64 nb, .int .i64 er, .bool true])) (hr' : hr < s.H.length) (hk : κ [] (.int .i64 er) s.H) : C 28 [.ptr hb 0] s κ :=
  cal_vw hC (s_err m at_ hold nb er) [(hb, 0, false), (hr, 0, false)] rfl (rdV (g := fun h => (h, 0)) h4 hr') ⟨⟨(show 0 < 2 by omega), trivial, rfl⟩, trivial⟩ rfl hk
end

section
variable {A : Ar} {C : CallT} {xs : List Int} {m p a b : Nat} {at_ hold nb er : Int} {hb hr : Nat} {s : St} {κ : List Nat → SV → List Ck → Prop}

theorem call_bits (hC : C = CallX prog) (hA : A = R) {n : Int} (hx : RX xs m) (hF : RF xs p a b at_ hold nb) (hne : hb ≠ hr) (h4 : s.H[hb]? = some (.box 70 [.lst hr m, .int .i64 at_, .int .u64 hold, .int .i64 nb, .int .i64 er, .bool true])) (h5 : s.H[hr]? = some (.lst 5 1 (A.ints .u8 xs)))
    (hk : ∀ (a b p' : Nat) (at_ hold nb er' y : Int), RF xs p' a b at_ hold nb → 
      ((er ≠ 0 ∧ y = 0 ∧ er' = er ∧ p' = p) ∨ (er = 0 ∧ (n < 0 ∨ 32 < n) ∧ y = 0 ∧ er' = 2 ∧ p' = p) ∨ (er = 0 ∧ 0 ≤ n ∧ n ≤ 32 ∧ 8 * (xs.length : Int) < p + n ∧ y = 0 ∧ er' = 3 ∧ p' = p) ∨
      (er = 0 ∧ 0 ≤ n ∧ n ≤ 32 ∧ p + n ≤ 8 * (xs.length : Int) ∧ y = cut (V xs) p n.toNat ∧ er' = 0 ∧ p' = p + n.toNat)) →
      κ [hb, hr] (.int .u32 y) (set1 (set1 s.H hb (.box 70 [.lst hr m, .int .i64 at_, .int .u64 hold, .int .i64 nb, .int .i64 er', .bool true])) hr (.lst 5 1 (A.ints .u8 xs)))) : C 27 [.ptr hb 0, .int .i64 n] s κ := by
  have hS := s_bits xs m p a b hx at_ hold nb er n hF
  rw [← hA] at hS
  refine cal_of hC hS [(hb, 0, true), (hr, 0, true)] ⟨by simp [hne], by simp, trivial⟩ (matchH2 hA ⟨(show 1 < 2 by omega), trivial, trivial, trivial, trivial, trivial, trivial⟩ ⟨rfl, trivial, trivial, trivial, trivial, trivial, trivial⟩ rfl h4 h5) ⟨⟨(show 0 < 2 by omega), trivial, rfl⟩, ⟨trivial, trivial, rfl⟩, trivial⟩ ?_
  rintro _ _ ⟨a, b, p', at_, hold, nb, er', y, hF', rfl, rfl, hQ⟩
  rw [← hA]
  refine ⟨_, _, _, rfl, rfl, backH2 hA rfl, ?_⟩
  have := hk a b p' at_ hold nb er' y hF' hQ
  rw [set1_eq, set1_eq] at this
  exact this
end

section
variable {A : Ar} {C : CallT} {xs : List Int} {m p a b : Nat} {at_ hold nb er : Int} {hb hr : Nat} {s : St} {κ : List Nat → SV → List Ck → Prop}
end
end Go.Sx

/- The reader: Look, Read, and calls of them. -/
set_option maxRecDepth 100000
set_option maxHeartbeats 4000000
set_option linter.unusedVariables false
set_option linter.unusedSimpArgs false
namespace Go.Sx
open Go.Proofs.Tryd

theorem cut_full {v : Int} {p b n : Nat} (h0 : 0 ≤ v) (hv : v < 2 ^ (p + b)) (hn : b ≤ n) : cut v p b % 2 ^ n = cut v p n := by
  unfold cut
  have hp := pow_pos2 p
  have hq : (2 : Int) ^ b ≤ 2 ^ n := by exact_mod_cast Nat.pow_le_pow_right (by decide) hn
  have h1 : v / 2 ^ p < 2 ^ b := by
    rw [Int.pow_add] at hv
    exact Int.ediv_lt_of_lt_mul hp (by rw [Int.mul_comm]; exact hv)
  have h2 : 0 ≤ v / 2 ^ p := Int.ediv_nonneg h0 (Int.le_of_lt hp)
  rw [Int.emod_eq_of_lt h2 h1]

/-- What Look answers. -/
def LookQ (xs : List Int) (p : Nat) (er n x hv : Int) : Prop :=
  ((er ≠ 0 ∨ n < 0 ∨ 32 < n) ∧ x = 0 ∧ hv = 0) ∨ (er = 0 ∧ 0 ≤ n ∧ n ≤ 32 ∧ x = cut (V xs) p n.toNat ∧ hv = min n (8 * xs.length - p))

theorem s_look (xs : List Int) (m p a b : Nat) (hx : RX xs m) (at_ hold nb er n : Int) (hF : RF xs p a b at_ hold nb) :
    Spec prog 62 [.ptr 0 0, .int .i64 n] [.box 70 [.lst 1 m, .int .i64 at_, .int .u64 hold, .int .i64 nb, .int .i64 er, .bool true], .lst 5 1 (R.ints .u8 xs)]
      (fun r H => ∃ (a b : Nat) (at_ hold nb x hv : Int), RF xs p a b at_ hold nb ∧ LookQ xs p er n x hv ∧ r = .tup [.int .u32 x, .int .i64 hv] ∧ H = [.box 70 [.lst 1 m, .int .i64 at_, .int .u64 hold, .int .i64 nb, .int .i64 er, .bool true], .lst 5 1 (R.ints .u8 xs)]) := by
  refine Spec_of_kX (D := fun i => if i = 4 then (16, []) else (0, [])) (ks := [0, 1, 4, 5]) tok mixed (fn := f62) rfl rfl rfl (by kernel_rfl) (N := 32) rfl (rs := [.tmp 4, .tmp 5]) rfl (Nat.le_of_ble_eq_true rfl) fun A C Kp E ag L q hA hC hK hE hag hL hq => ?_
  rw [← hA]
  cbv
  refine cal_vw hC (s_err m at_ hold nb er) [(0, 0, false), (1, 0, false)] rfl ?_ ⟨⟨(show 0 < 2 by omega), trivial, rfl⟩, trivial⟩ rfl ?_
  · exact ⟨⟨(show 1 < 2 by omega), trivial, trivial, trivial, trivial, trivial, trivial⟩, ⟨rfl, trivial, trivial, trivial, trivial, trivial, trivial⟩, rfl, trivial, trivial, rfl, trivial⟩
  cbv
  refine ifB_intro (fun h => ?_) (fun h => ?_)
  · have her := h
    (try simp only [wA hA] at her)
    (try rw [h]); clear h
    cbv
    subst hA hq
    exact ⟨a, b, at_, hold, nb, 0, 0, hF, .inl ⟨.inl her, rfl, rfl⟩, rfl, rfl⟩
  have her := h
  (try simp only [wA hA] at her)
  (try rw [h]); clear h
  cbv
  refine cal_bool hC (s_right n) ⟨⟨trivial, trivial, rfl⟩, trivial⟩ fun y hy => ?_
  cbv
  refine ifB_intro (fun h => ?_) (fun h => ?_)
  · have hy2 := h
    (try simp only [wA hA] at hy2)
    (try rw [h]); clear h
    cbv
    subst hA hq
    rw [hy] at hy2
    refine ⟨a, b, at_, hold, nb, 0, 0, hF, .inl ⟨.inr ?_, rfl, rfl⟩, rfl, rfl⟩
    simp at hy2
    omega
  have hn : 0 ≤ n ∧ n ≤ 32 := by
    subst hA
    have h : (!y) = false := h
    rw [hy] at h
    simpa using h
  clear hy h
  cbv
  have hS := s_fill xs m p a b hx at_ hold nb er n hn.2 hF
  rw [← hA] at hS
  refine cal_of hC hS [(0, 0, true), (1, 0, true)] ⟨by simp, by simp, trivial⟩ (matchH2 hA ⟨(show 1 < 2 by omega), trivial, trivial, trivial, trivial, trivial, trivial⟩ ⟨rfl, trivial, trivial, trivial, trivial, trivial, trivial⟩ rfl rfl rfl) ⟨⟨(show 0 < 2 by omega), trivial, rfl⟩, ⟨trivial, trivial, rfl⟩, trivial⟩ ?_
  rintro _ _ ⟨rfl, a, b, at_, hold, nb, hF, hfull, rfl⟩
  refine ⟨_, _, _, rfl, rfl, backH2 hA rfl, ?_⟩
  cbv
  refine ⟨by simp only [ge0A hA]; exact hn.1, ?_⟩
  subst hA hq
  refine ⟨a, b, at_, hold, nb, _, _, hF, .inr ⟨her, hn.1, hn.2, ?_, ?_⟩, rfl, rfl⟩
  all_goals
    obtain ⟨h1, h2, h3, h4, h5, h6⟩ := hF
    obtain ⟨hb, hm, hl⟩ := hx
    obtain ⟨k, rfl⟩ : ∃ k : Nat, n = k := ⟨n.toNat, by omega⟩
  · have hv := V_bnd hb
    have hc0 := cut_nonneg (V_bnd hb).1 p b
    have hc1 := cut_lt (V xs) p b
    have hq : (2 : Int) ^ b ≤ 2 ^ 39 := by exact_mod_cast Nat.pow_le_pow_right (by decide) h5
    have hq39 : (2 : Int) ^ 39 = 549755813888 := by decide
    have hqk : (2 : Int) ^ k ≤ 2 ^ 32 := by exact_mod_cast Nat.pow_le_pow_right (by decide) (by omega)
    have hq32 : (2 : Int) ^ 32 = 4294967296 := by decide
    show IntKind.u32.wrap (band .u64 hold (IntKind.u64.wrap (shlI .u64 1 k - 1))) = _
    have e : cut (V xs) p b % 2 ^ k = cut (V xs) p k := by
      rcases Nat.lt_or_ge b k with hbk | hbk
      · refine cut_full hv.1 ?_ (Nat.le_of_lt hbk)
        have hfull : (k : Int) ≤ nb ∨ a = xs.length := hfull
        have : p + b = 8 * xs.length := by omega
        rw [this]; exact hv.2
      · exact cut_cut _ _ _ _ hbk
    rw [mask64 (by omega) (by omega) (by omega), h6, e]
    have := cut_nonneg (V_bnd hb).1 p k
    have := cut_lt (V xs) p k
    rw [wrapu32 (by omega), Int.toNat_natCast]
  · show (if nb < (k : Int) then nb else (k : Int)) = min (k : Int) (8 * (xs.length : Int) - (p : Int))
    have hfull : (k : Int) ≤ nb ∨ a = xs.length := hfull
    split <;> omega

section
variable {A : Ar} {C : CallT} {xs : List Int} {m p a b : Nat} {at_ hold nb er : Int} {hb hr : Nat} {s : St} {κ : List Nat → SV → List Ck → Prop}

theorem call_look (hC : C = CallX prog) (hA : A = R) {n : Int} (hx : RX xs m) (hF : RF xs p a b at_ hold nb) (hne : hb ≠ hr) (h4 : s.H[hb]? = some (.box 70 [.lst hr m, .int .i64 at_, .int .u64 hold, .int .i64 nb, .int .i64 er, .bool true])) (h5 : s.H[hr]? = some (.lst 5 1 (A.ints .u8 xs)))
    (hk : ∀ (a b : Nat) (at_ hold nb x hv : Int), RF xs p a b at_ hold nb → LookQ xs p er n x hv →
      κ [hb, hr] (.tup [.int .u32 x, .int .i64 hv]) (set1 (set1 s.H hb (.box 70 [.lst hr m, .int .i64 at_, .int .u64 hold, .int .i64 nb, .int .i64 er, .bool true])) hr (.lst 5 1 (A.ints .u8 xs)))) : C 62 [.ptr hb 0, .int .i64 n] s κ := by
  have hS := s_look xs m p a b hx at_ hold nb er n hF
  rw [← hA] at hS
  refine cal_of hC hS [(hb, 0, true), (hr, 0, true)] ⟨by simp [hne], by simp, trivial⟩ (matchH2 hA ⟨(show 1 < 2 by omega), trivial, trivial, trivial, trivial, trivial, trivial⟩ ⟨rfl, trivial, trivial, trivial, trivial, trivial, trivial⟩ rfl h4 h5) ⟨⟨(show 0 < 2 by omega), trivial, rfl⟩, ⟨trivial, trivial, rfl⟩, trivial⟩ ?_
  rintro _ _ ⟨a, b, at_, hold, nb, x, hv, hF', hQ, rfl, rfl⟩
  refine ⟨_, _, _, rfl, rfl, backH2 hA rfl, ?_⟩
  have := hk a b at_ hold nb x hv hF' hQ
  rw [set1_eq, set1_eq] at this
  exact this
end
end Go.Sx

/- The first numbers of a list; cells looked at. -/
set_option maxRecDepth 100000
set_option maxHeartbeats 4000000
set_option linter.unusedVariables false
set_option linter.unusedSimpArgs false
namespace Go.Sx
open Go.Proofs.Tryd

theorem s_ints (l : List Int) (ln : Nat) (n : Int) (h0 : 0 ≤ n) : Spec prog 5 [.sl 0 0 ln false, .int .i64 n] [.vw (R.ints .i64 l)]
    (fun r H => ∃ k : Nat, k = min ln n.toNat ∧ r = .sl 0 0 k false ∧ H = [.vw (R.ints .i64 l)]) := by
  refine Spec_of_kX (D := fun i => (0, [])) (ks := [0, 1, 4]) tok mixed (fn := f5) rfl rfl rfl (by kernel_rfl) (N := 13) rfl (rs := [.tmp 4]) rfl (Nat.le_of_ble_eq_true rfl) fun A C Kp E ag L q hA hC hK hE hag hL hq => ?_
  rw [← hA]
  cbv
  (try simp only [ncast] at *)
  refine ifB_intro (fun h => ?_) (fun h => ?_)
  · have hlt := h
    (try simp only [wA hA] at hlt)
    (try rw [h]); clear h
    cbv
    (try simp only [ncast] at *)
    refine ⟨by (first | omega | (try simp only [wA hA, wB hA, Go.IntKind.wrap_i64] at *) <;> omega | (try simp only [decide_eq_true_eq, decide_eq_false_iff_not, beq_iff_eq, beq_eq_false_iff_ne, bne_iff_ne, bne_eq_false_iff_eq, Bool.not_eq_true', Bool.not_eq_false', ncast, Int.not_lt, Int.not_le, ne_eq, not_true_eq_false, not_false_eq_true, false_or, true_and, Go.IntKind.wrap_i64] at *) <;> omega), ?_⟩
    subst hA hq
    refine ⟨h0, ?_, _, ?_, rfl, rfl⟩
    · show n ≤ ((ln : Nat) : Int)
      omega
    · show (n - 0).toNat = _
      omega
  · have hge := h
    (try simp only [wA hA] at hge)
    (try rw [h]); clear h
    cbv
    (try simp only [ncast] at *)
    subst hA hq
    exact ⟨ln, by omega, rfl, rfl⟩
theorem cells_vw {H : List Ck} {j n : Nat} {cs : List SV} (hc : H[j]? = some (.vw cs)) (hn : cs.length = n) : cellsAt H j 0 n = some cs := by
  rw [cellsAt_eq hc (by show 0 + n ≤ cs.length; omega), ← hn]
  show some ((cs.drop 0).take cs.length) = _
  rw [List.drop_zero, List.take_length]
section
variable {A : Ar} {C : CallT} {s : St} {κ : List Nat → SV → List Ck → Prop}
theorem call_ints (hC : C = CallX prog) (hA : A = R) {l : List Int} {ln hb : Nat} {n : Int} {cl : Bool} (h0 : 0 ≤ n) (h4 : s.H[hb]? = some (.vw (A.ints .i64 l)))
    (hk : ∀ k, k = min ln n.toNat → κ [] (.sl hb 0 k false) s.H) : C 5 [.sl hb 0 ln cl, .int .i64 n] s κ := by
  have hS := s_ints l ln n h0
  rw [← hA] at hS
  refine cal_of hC hS [(hb, 0, false)] ⟨by simp, trivial⟩ ⟨hLtsA hA .., zOksA hA .., ?_, trivial⟩ ⟨⟨(show 0 < 1 by omega), rfl, rfl, rfl⟩, ⟨trivial, trivial, rfl⟩, trivial⟩ ?_
  · rw [renA hA]; exact cells_vw h4 rfl
  rintro _ _ ⟨k, h1, rfl, rfl⟩
  refine ⟨_, .sl hb 0 k false, s.H, rfl, rfl, ?_, hk k h1⟩
  simp [backH, setAll]
end
end Go.Sx

/- canon: a decoder reads a word. -/
set_option maxRecDepth 100000
set_option maxHeartbeats 4000000
set_option linter.unusedVariables false
set_option linter.unusedSimpArgs false
namespace Go.Sx
open Go.Proofs.Tryd

theorem st_mod {l : List Int} {x k s : Nat} (hk : (l.getD s 0).toNat ≤ k) : st l (x % 2 ^ k) s ↔ st l x s := by
  unfold st
  rw [TN_mod x k _ hk]
def bitsAt (xs : List Int) (p : Nat) : Nat := (V xs / 2 ^ p).toNat
theorem cut_bitsAt {xs : List Int} (hb : Byt xs) (p n : Nat) : cut (V xs) p n = ((bitsAt xs p % 2 ^ n : Nat) : Int) := by
  have h1 : 0 ≤ V xs / 2 ^ p := Int.ediv_nonneg (V_bnd hb).1 (Int.le_of_lt (pow_pos2 p))
  unfold cut bitsAt
  rw [Int.natCast_emod, Int.toNat_of_nonneg h1, Int.natCast_pow]
  rfl
/-- What Next answers. -/
def NextQ (l : List Int) (lg : Int) (xs : List Int) (p : Nat) (er y e : Int) (p' : Nat) : Prop :=
  (er ≠ 0 ∧ y = -1 ∧ e = er ∧ p' = p) ∨
  (er = 0 ∧ ((∃ s, st l (bitsAt xs p) s ∧ (p : Int) + l.getD s 0 ≤ 8 * (xs.length : Int) ∧ y = (s : Int) ∧ e = 0 ∧ p' = p + (l.getD s 0).toNat) ∨
    ((∀ s, st l (bitsAt xs p) s → 8 * (xs.length : Int) < p + l.getD s 0) ∧ y = -1 ∧ p' = p ∧ ((8 * (xs.length : Int) < p + lg ∧ e = 3) ∨ ((p : Int) + lg ≤ 8 * (xs.length : Int) ∧ e = 7)))))

theorem SlowQ_tb {l : List Int} {lg : Int} {sy tb : List Int} (hQ : DecQ l lg sy tb) {b i : Nat} (hi : i = b % 512) (h0 : tb.getD (i * 2 + 1) 0 ≠ 0) : SlowQ l b (tb.getD (i * 2) 0) (tb.getD (i * 2 + 1) 0) := by
  obtain ⟨s, h1, ⟨h2, h3, h4⟩, h5, h6⟩ := (hQ.tb i (by omega)).2 h0
  refine .inl ⟨s, ?_, h5, h6⟩
  have h7 := (mod_st hQ.lens h1 h2).1 h4
  rw [hi] at h7
  exact (st_mod (k := 9) (by omega)).1 h7

theorem zOks_app {g : Nat → Nat × Nat} : ∀ {a b : List SV}, zOks g a → zOks g b → zOks g (a ++ b)
  | [], b, _, hb => hb
  | x :: a, b, ha, hb => ⟨ha.1, zOks_app ha.2 hb⟩
theorem IsDC.zo {dc : List SV} {m : Bool} {lg : Int} {n f : List Int} {sy : SV} {tb : List Int} (h : IsDC dc m lg n f sy tb) {g : Nat → Nat × Nat} (hs : zOk g sy) : zOks g dc := by
  rw [h.eq]
  exact ⟨trivial, trivial, zOks_app (ints_zOks _ _ _) (zOks_app (ints_zOks _ _ _) ⟨hs, ints_zOks _ _ _⟩)⟩
/-- A decoder handed over to be looked at. -/
theorem matchD {g : Nat → Nat × Nat} {sH : List Ck} {hd hs M ks : Nat} {dc dc' : List SV} {mk : Bool} {lg : Int} {n f : List Int} {tb : List Int} (hD : IsDC dc mk lg n f (.lst 1 ks) tb) (hD' : IsDC dc' mk lg n f (.lst hs ks) tb) (hg : g 1 = (hs, 0)) (hM : 1 < M) (h4 : cellsAt sH hd 0 1061 = some dc') :
    hLts M dc ∧ zOks g dc ∧ cellsAt sH hd 0 dc.length = some (dc.map (renC g)) := by
  refine ⟨hD.hl hM, hD.zo (by show (g 1).2 = 0; rw [hg]), ?_⟩
  have h1 := hD.mapR g
  have e : renC g (.lst 1 ks) = .lst hs ks := by simp [renC, hg]
  rw [e] at h1
  rw [hD.len, h4, h1.uniq hD']

theorem cells_box {H : List Ck} {j n T : Nat} {cs : List SV} (hc : H[j]? = some (.box T cs)) (hn : cs.length = n) : cellsAt H j 0 n = some cs := by
  rw [cellsAt_eq hc (by show 0 + n ≤ cs.length; omega), ← hn]
  show some ((cs.drop 0).take cs.length) = _
  rw [List.drop_zero, List.take_length]
theorem cells_lst {H : List Ck} {j n T k : Nat} {cs : List SV} (hc : H[j]? = some (.lst T k cs)) (hn : cs.length = n) : cellsAt H j 0 n = some cs := by
  rw [cellsAt_eq hc (by show 0 + n ≤ cs.length; omega), ← hn]
  show some ((cs.drop 0).take cs.length) = _
  rw [List.drop_zero, List.take_length]
section
variable {A : Ar} {C : CallT} {s : St} {κ : List Nat → SV → List Ck → Prop}
theorem call_slow (hC : C = CallX prog) (hA : A = R) {l : List Int} {lg : Int} {sy tb : List Int} {ks b hd hs : Nat} {bi : Int} {dc' : List SV} (hQ : DecQ l lg sy tb) (hD' : IsDC dc' true lg (cvec l) (fvec (cvec l)) (.lst hs ks) tb) (hks : ks = sy.length) (hb : b < 2 ^ 32) (hbi : bi = (b : Int))
    (h4 : cellsAt s.H hd 0 1061 = some dc') (h5 : cellsAt s.H hs 0 ks = some (A.ints .i64 sy)) (hk : ∀ y n, SlowQ l b y n → κ [] (.tup [.int .i64 y, .int .i64 n]) s.H) : C 63 [.ptr hd 0, .int .u32 bi] s κ := by
  subst hbi
  have hD := hD'.setS (.lst 1 ks)
  have hS := s_slow l lg sy tb ks b _ hQ hD hks hb
  rw [← hA] at hS
  obtain ⟨m1, m2, m3⟩ := matchD (g := linkOf s.H.length [(hd, 0, false), (hs, 0, false)]) (M := 2) hD hD' rfl (by omega) h4
  refine cal_of hC hS [(hd, 0, false), (hs, 0, false)] ⟨by simp, by simp, trivial⟩ ⟨m1, m2, m3, hLtsA hA .., zOksA hA .., ?_, trivial⟩ ⟨⟨(show 0 < 2 by omega), trivial, rfl⟩, ⟨trivial, trivial, rfl⟩, trivial⟩ ?_
  · rw [renA hA, A_ints_len hA, ← hks]; exact h5
  rintro _ _ ⟨y, n, h1, rfl, rfl⟩
  refine ⟨_, _, s.H, rfl, rfl, ?_, hk y n h1⟩
  simp [backH, setAll]
end

theorem s_cnext (l : List Int) (lg : Int) (sy tb : List Int) (ks : Nat) (dc : List SV) (xs : List Int) (m p a b : Nat) (at_ hold nb er : Int) (hQ : DecQ l lg sy tb) (hD : IsDC dc true lg (cvec l) (fvec (cvec l)) (.lst 1 ks) tb) (hks : ks = sy.length) (hx : RX xs m) (hF : RF xs p a b at_ hold nb) :
    Spec prog 50 [.ptr 0 0, .ptr 2 0] [.vw dc, .vw (R.ints .i64 sy), .box 70 [.lst 3 m, .int .i64 at_, .int .u64 hold, .int .i64 nb, .int .i64 er, .bool true], .lst 5 1 (R.ints .u8 xs)]
      (fun r H => ∃ (a b p' : Nat) (at_ hold nb y e : Int), RF xs p' a b at_ hold nb ∧ NextQ l lg xs p er y e p' ∧ r = .tup [.int .i64 y, .int .i64 e] ∧ H = [.vw dc, .vw (R.ints .i64 sy), .box 70 [.lst 3 m, .int .i64 at_, .int .u64 hold, .int .i64 nb, .int .i64 er, .bool true], .lst 5 1 (R.ints .u8 xs)]) := by
  have hlg := hQ.lg0
  refine Spec_of_kF (D := fun i => if i = 8 then (7, []) else (0, [])) (ks := [0, 1, 4, 5, 6, 7, 8, 9, 10, 11]) tok mixed (fn := f50) rfl rfl rfl (by kernel_rfl) (N := 75) rfl (rs := [.tmp 4, .tmp 5]) rfl (Nat.le_of_ble_eq_true rfl) fun A C Kp E ag L q hA hC hK hE hag hL hq => ?_
  rw [← hA]
  cbv
  (try simp only [ncast] at *)
  refine bindO_some hD.r0 ?_
  cbv
  (try simp only [ncast] at *)
  refine ifF (by simp only [notA hA]; rfl) fun h => ?_
  (try rw [h]); clear h
  cbv
  refine call_err hC rfl (by show 3 < 4; omega) ?_
  cbv
  (try simp only [ncast] at *)
  refine ifB_intro (fun h => ?_) (fun h => ?_)
  · have her := h
    (try simp only [wA hA] at her)
    (try rw [h]); clear h
    cbv
    (try simp only [ncast] at *)
    subst hA hq
    refine Fin_of ⟨[(4, .int .i64 (-1)), (5, .int .i64 er)], [.vw dc, .vw (R.ints .i64 sy), .box 70 [.lst 3 m, .int .i64 at_, .int .u64 hold, .int .i64 nb, .int .i64 er, .bool true], .lst 5 1 (R.ints .u8 xs)]⟩ ?_ ⟨_, _, _, at_, hold, nb, (-1), er, hF, (.inl ⟨her, rfl, rfl, rfl⟩), rfl, rfl⟩
    have dc0 : ∀ (N : Nat) (H1 : List Ck), 1 < N → H1[0]? = some (.vw dc) → subC 4 N [0, 1, 2, 3] H1 0 0 (.vw dc) := fun N H1 hN h => dc_v hD hN rfl h
    exact Sc [0, 1, 2, 3] (by repeat' (first | exact dc0 _ _ (Nat.le_of_ble_eq_true rfl) rfl | exact trivial | exact fun _ => rfl | exact fun h => absurd h (by simp) | exact subC_ints rfl | refine And.intro ?_ ?_ | rfl | (simp [subH_nil, hLts, hLt, renCk, renC, sg, Ck.cells, R_ints_ren, R_ints_hLts]; done)))
  have her := h
  (try simp only [wA hA] at her)
  (try rw [h]); clear h
  cbv
  (try simp only [ncast] at *)
  (try simp only [ncast] at *)
  subst her
  refine bindO_some hD.r1 ?_
  cbv
  (try simp only [ncast] at *)
  refine call_look hC hA hx hF (by decide) rfl rfl fun a2 b2 at2 hold2 nb2 x hv hF2 hL2 => ?_
  have hL3 : x = cut (V xs) p lg.toNat ∧ hv ≤ lg ∧ (p : Int) + hv ≤ 8 * (xs.length : Int) ∧ (hv = lg ∨ (p : Int) + hv = 8 * (xs.length : Int)) := by
    rcases hL2 with h | h
    · omega
    · exact ⟨h.2.2.2.1, by omega⟩
  obtain ⟨hx1, hv1, hv2, hv3⟩ := hL3
  rw [cut_bitsAt hx.1] at hx1
  obtain ⟨bt, hbt⟩ : ∃ bt, bt = bitsAt xs p := ⟨_, rfl⟩
  obtain ⟨bm, hbm⟩ : ∃ bm, bm = bt % 2 ^ lg.toNat := ⟨_, rfl⟩
  rw [← hbt, ← hbm] at hx1
  have hbml : bm < 2 ^ 32 := by
    have h1 : bm < 2 ^ lg.toNat := by rw [hbm]; exact Nat.mod_lt _ (Nat.pow_pos (by decide))
    have h2 : 2 ^ lg.toNat ≤ 2 ^ 16 := Nat.pow_le_pow_right (by decide) (by omega)
    have h3 : (2 : Nat) ^ 16 < 2 ^ 32 := by decide
    omega
  have hst : ∀ s, st l bm s ↔ st l bt s := by
    intro s
    rw [hbm]
    by_cases h0 : s < l.length ∧ 0 < l.getD s 0
    · exact st_mod (by have := hQ.max s h0.1 h0.2; omega)
    · exact ⟨fun h => absurd ⟨h.1, h.2.1⟩ h0, fun h => absurd ⟨h.1, h.2.1⟩ h0⟩
  have hbd : p ≤ 8 * xs.length := by have := hF.2.2.1; have := hF.2.2.2.1; omega
  clear hL2
  cbv
  (try simp only [ncast] at *)
  have hix : A.bin .and .u32 x 511 = ((bm % 512 : Nat) : Int) := by
    have h := band32 (a := bm) (b := 511) hbml (by decide)
    rw [show (511 : Nat) = 2 ^ 9 - 1 from rfl, Nat.and_two_pow_sub_one_eq_mod] at h
    rw [andA hA, hx1]
    exact h
  obtain ⟨ix, hix2⟩ : ∃ ix, ix = A.bin .and .u32 x 511 := ⟨_, rfl⟩
  simp only [← hix2]
  rw [← hix2] at hix
  clear hix2
  obtain ⟨im, him⟩ : ∃ im, im = bm % 512 := ⟨_, rfl⟩
  rw [← him] at hix
  refine hD.rt hA ⟨by omega, by omega⟩ fun y0 n0 hy0 hn0 => ?_
  have hit : ix.toNat = im := by omega
  rw [hit] at hy0 hn0
  have hfast : n0 ≠ 0 → SlowQ l bm y0 n0 := fun h => by rw [hy0, hn0]; rw [hn0] at h; exact SlowQ_tb hQ him h
  have hn16 : n0 ≠ 0 → (0 ≤ y0 ∧ y0 < 32768) ∧ 0 < n0 ∧ n0 ≤ 16 := by
    intro h
    rcases hfast h with ⟨s, h1, h2, h3⟩ | ⟨_, _, h3⟩
    · have := hQ.lens.len
      have := h1.1
      have := h1.2.1
      have := (hQ.lens.at s).2
      omega
    · exact absurd h3 h
  clear hy0 hn0
  cbv
  (try simp only [ncast] at *)
  have hnofit : ∀ {y n : Int}, SlowQ l bm y n → ¬ (0 < n ∧ n ≤ hv) → ∀ s, st l (bitsAt xs p) s → 8 * (xs.length : Int) < p + l.getD s 0 := by
    intro y n hS hno s hs
    rw [← hbt] at hs
    have hm := hQ.max s hs.1 hs.2.1
    rcases hS with ⟨s', h1, h2, h3⟩ | ⟨h1, _, _⟩
    · have e : s' = s := st_uniq hQ.lens ((hst s').1 h1) hs
      subst e
      have := hs.2.1
      omega
    · exact absurd ((hst s).2 hs) (h1 s)
  have hyes : ∀ {y n : Int}, SlowQ l bm y n → 0 < n → n ≤ hv → NextQ l lg xs p 0 y 0 (p + n.toNat) := by
    intro y n hS h0 h1
    rcases hS with ⟨s, h2, h3, h4⟩ | ⟨_, _, h4⟩
    · exact .inr ⟨rfl, .inl ⟨s, by rw [← hbt]; exact (hst s).1 h2, by omega, h3, rfl, by rw [h4]⟩⟩
    · omega
  have hno : ∀ {y n : Int}, SlowQ l bm y n → ¬ (0 < n ∧ n ≤ hv) → ∀ e, ((hv < lg ∧ e = 3) ∨ (lg ≤ hv ∧ e = 7)) → NextQ l lg xs p 0 (-1) e p := by
    intro y n hS h0 e he
    refine .inr ⟨rfl, .inr ⟨hnofit hS h0, rfl, rfl, ?_⟩⟩
    rcases he with he | he
    · exact .inl ⟨by omega, he.2⟩
    · exact .inr ⟨by omega, he.2⟩
  clear hnofit hst hbt hbm hix hit him
  by_cases h0 : n0 = 0
  · subst h0
    refine ifT (by subst hA; decide) fun h => ?_
    (try rw [h]); clear h
    cbv
    (try simp only [ncast] at *)
    refine call_slow hC hA hQ hD hks hbml hx1 (cells_vw rfl hD.len) (cells_vw rfl (by rw [hks]; exact A_ints_len hA ..)) fun y n hS2 => ?_
    cbv
    (try simp only [ncast] at *)
    refine ifB_intro (fun h => ?_) (fun h => ?_)
    · have hn0 := h
      (try simp only [wA hA] at hn0)
      (try rw [h]); clear h
      cbv
      (try simp only [ncast] at *)
      refine ifB_intro (fun h => ?_) (fun h => ?_)
      · have hfit := h
        (try simp only [wA hA] at hfit)
        (try rw [h]); clear h
        cbv
        (try simp only [ncast] at *)
        refine call_bits hC hA hx hF2 (by decide) rfl rfl fun a3 b3 p3 at3 hold3 nb3 er3 y3 hF3 hB => ?_
        obtain ⟨rfl, rfl⟩ : er3 = 0 ∧ p3 = p + n.toNat := by
          rcases hB with h | h | h | h
          · exact absurd rfl h.1
          · omega
          · omega
          · exact ⟨h.2.2.2.2.2.1, h.2.2.2.2.2.2⟩
        have hQ2 := hyes hS2 (by omega) (by omega)
        clear hB
        cbv
        (try simp only [ncast] at *)
        subst hA hq
        refine Fin_of ⟨[(4, .int .i64 y), (5, .int .i64 0)], [.vw dc, .vw (R.ints .i64 sy), .box 70 [.lst 3 m, .int .i64 at3, .int .u64 hold3, .int .i64 nb3, .int .i64 0, .bool true], .lst 5 1 (R.ints .u8 xs)]⟩ ?_ ⟨_, _, _, at3, hold3, nb3, y, 0, hF3, hQ2, rfl, rfl⟩
        have dc0 : ∀ (N : Nat) (H1 : List Ck), 1 < N → H1[0]? = some (.vw dc) → subC 4 N [0, 1, 2, 3] H1 0 0 (.vw dc) := fun N H1 hN h => dc_v hD hN rfl h
        exact Sc [0, 1, 2, 3] (by repeat' (first | exact dc0 _ _ (Nat.le_of_ble_eq_true rfl) rfl | exact trivial | exact fun _ => rfl | exact fun h => absurd h (by simp) | exact subC_ints rfl | refine And.intro ?_ ?_ | rfl | (simp [subH_nil, hLts, hLt, renCk, renC, sg, Ck.cells, R_ints_ren, R_ints_hLts]; done)))
      · have hfit := h
        (try simp only [wA hA] at hfit)
        (try rw [h]); clear h
        cbv
        (try simp only [ncast] at *)
        refine bindO_some hD.r1 ?_
        cbv
        (try simp only [ncast] at *)
        refine ifB_intro (fun h => ?_) (fun h => ?_)
        · have hsh := h
          (try simp only [wA hA] at hsh)
          (try rw [h]); clear h
          cbv
          (try simp only [ncast] at *)
          have hQ2 := hno hS2 (by omega) 3 (.inl ⟨by omega, rfl⟩)
          subst hA hq
          refine Fin_of ⟨[(4, .int .i64 (-1)), (5, .int .i64 3)], [.vw dc, .vw (R.ints .i64 sy), .box 70 [.lst 3 m, .int .i64 at2, .int .u64 hold2, .int .i64 nb2, .int .i64 0, .bool true], .lst 5 1 (R.ints .u8 xs)]⟩ ?_ ⟨_, _, _, at2, hold2, nb2, (-1), 3, hF2, hQ2, rfl, rfl⟩
          have dc0 : ∀ (N : Nat) (H1 : List Ck), 1 < N → H1[0]? = some (.vw dc) → subC 4 N [0, 1, 2, 3] H1 0 0 (.vw dc) := fun N H1 hN h => dc_v hD hN rfl h
          exact Sc [0, 1, 2, 3] (by repeat' (first | exact dc0 _ _ (Nat.le_of_ble_eq_true rfl) rfl | exact trivial | exact fun _ => rfl | exact fun h => absurd h (by simp) | exact subC_ints rfl | refine And.intro ?_ ?_ | rfl | (simp [subH_nil, hLts, hLt, renCk, renC, sg, Ck.cells, R_ints_ren, R_ints_hLts]; done)))
        · have hsh := h
          (try simp only [wA hA] at hsh)
          (try rw [h]); clear h
          cbv
          (try simp only [ncast] at *)
          have hQ2 := hno hS2 (by omega) 7 (.inr ⟨by omega, rfl⟩)
          subst hA hq
          refine Fin_of ⟨[(4, .int .i64 (-1)), (5, .int .i64 7)], [.vw dc, .vw (R.ints .i64 sy), .box 70 [.lst 3 m, .int .i64 at2, .int .u64 hold2, .int .i64 nb2, .int .i64 0, .bool true], .lst 5 1 (R.ints .u8 xs)]⟩ ?_ ⟨_, _, _, at2, hold2, nb2, (-1), 7, hF2, hQ2, rfl, rfl⟩
          have dc0 : ∀ (N : Nat) (H1 : List Ck), 1 < N → H1[0]? = some (.vw dc) → subC 4 N [0, 1, 2, 3] H1 0 0 (.vw dc) := fun N H1 hN h => dc_v hD hN rfl h
          exact Sc [0, 1, 2, 3] (by repeat' (first | exact dc0 _ _ (Nat.le_of_ble_eq_true rfl) rfl | exact trivial | exact fun _ => rfl | exact fun h => absurd h (by simp) | exact subC_ints rfl | refine And.intro ?_ ?_ | rfl | (simp [subH_nil, hLts, hLt, renCk, renC, sg, Ck.cells, R_ints_ren, R_ints_hLts]; done)))
    · have hn0 := h
      (try simp only [wA hA] at hn0)
      (try rw [h]); clear h
      cbv
      (try simp only [ncast] at *)
      refine bindO_some hD.r1 ?_
      cbv
      (try simp only [ncast] at *)
      refine ifB_intro (fun h => ?_) (fun h => ?_)
      · have hsh := h
        (try simp only [wA hA] at hsh)
        (try rw [h]); clear h
        cbv
        (try simp only [ncast] at *)
        have hQ2 := hno hS2 (by omega) 3 (.inl ⟨by omega, rfl⟩)
        subst hA hq
        refine Fin_of ⟨[(4, .int .i64 (-1)), (5, .int .i64 3)], [.vw dc, .vw (R.ints .i64 sy), .box 70 [.lst 3 m, .int .i64 at2, .int .u64 hold2, .int .i64 nb2, .int .i64 0, .bool true], .lst 5 1 (R.ints .u8 xs)]⟩ ?_ ⟨_, _, _, at2, hold2, nb2, (-1), 3, hF2, hQ2, rfl, rfl⟩
        have dc0 : ∀ (N : Nat) (H1 : List Ck), 1 < N → H1[0]? = some (.vw dc) → subC 4 N [0, 1, 2, 3] H1 0 0 (.vw dc) := fun N H1 hN h => dc_v hD hN rfl h
        exact Sc [0, 1, 2, 3] (by repeat' (first | exact dc0 _ _ (Nat.le_of_ble_eq_true rfl) rfl | exact trivial | exact fun _ => rfl | exact fun h => absurd h (by simp) | exact subC_ints rfl | refine And.intro ?_ ?_ | rfl | (simp [subH_nil, hLts, hLt, renCk, renC, sg, Ck.cells, R_ints_ren, R_ints_hLts]; done)))
      · have hsh := h
        (try simp only [wA hA] at hsh)
        (try rw [h]); clear h
        cbv
        (try simp only [ncast] at *)
        have hQ2 := hno hS2 (by omega) 7 (.inr ⟨by omega, rfl⟩)
        subst hA hq
        refine Fin_of ⟨[(4, .int .i64 (-1)), (5, .int .i64 7)], [.vw dc, .vw (R.ints .i64 sy), .box 70 [.lst 3 m, .int .i64 at2, .int .u64 hold2, .int .i64 nb2, .int .i64 0, .bool true], .lst 5 1 (R.ints .u8 xs)]⟩ ?_ ⟨_, _, _, at2, hold2, nb2, (-1), 7, hF2, hQ2, rfl, rfl⟩
        have dc0 : ∀ (N : Nat) (H1 : List Ck), 1 < N → H1[0]? = some (.vw dc) → subC 4 N [0, 1, 2, 3] H1 0 0 (.vw dc) := fun N H1 hN h => dc_v hD hN rfl h
        exact Sc [0, 1, 2, 3] (by repeat' (first | exact dc0 _ _ (Nat.le_of_ble_eq_true rfl) rfl | exact trivial | exact fun _ => rfl | exact fun h => absurd h (by simp) | exact subC_ints rfl | refine And.intro ?_ ?_ | rfl | (simp [subH_nil, hLts, hLt, renCk, renC, sg, Ck.cells, R_ints_ren, R_ints_hLts]; done)))
  · obtain ⟨hy16, hn0', hn16'⟩ := hn16 h0
    have hS2 := hfast h0
    have hwn : A.wrap .i64 n0 = n0 := by rw [wrapA hA, wrap64 (by omega)]
    have hwy : A.wrap .i64 y0 = y0 := by rw [wrapA hA, wrap64 (by omega)]
    simp only [hwn, hwy]
    clear hwn hwy hfast hn16
    refine ifF (by (first | omega | (try simp only [wA hA, wB hA, Go.IntKind.wrap_i64] at *) <;> omega | (try simp only [decide_eq_true_eq, decide_eq_false_iff_not, beq_iff_eq, beq_eq_false_iff_ne, bne_iff_ne, bne_eq_false_iff_eq, Bool.not_eq_true', Bool.not_eq_false', ncast, Int.not_lt, Int.not_le, ne_eq, not_true_eq_false, not_false_eq_true, false_or, true_and, Go.IntKind.wrap_i64] at *) <;> omega)) fun h => ?_
    (try rw [h]); clear h
    cbv
    (try simp only [ncast] at *)
    refine ifB_intro (fun h => ?_) (fun h => ?_)
    · have hn0 := h
      (try simp only [wA hA] at hn0)
      (try rw [h]); clear h
      cbv
      (try simp only [ncast] at *)
      refine ifB_intro (fun h => ?_) (fun h => ?_)
      · have hfit := h
        (try simp only [wA hA] at hfit)
        (try rw [h]); clear h
        cbv
        (try simp only [ncast] at *)
        refine call_bits hC hA hx hF2 (by decide) rfl rfl fun a3 b3 p3 at3 hold3 nb3 er3 y3 hF3 hB => ?_
        obtain ⟨rfl, rfl⟩ : er3 = 0 ∧ p3 = p + n0.toNat := by
          rcases hB with h | h | h | h
          · exact absurd rfl h.1
          · omega
          · omega
          · exact ⟨h.2.2.2.2.2.1, h.2.2.2.2.2.2⟩
        have hQ2 := hyes hS2 (by omega) (by omega)
        clear hB
        cbv
        (try simp only [ncast] at *)
        subst hA hq
        refine Fin_of ⟨[(4, .int .i64 y0), (5, .int .i64 0)], [.vw dc, .vw (R.ints .i64 sy), .box 70 [.lst 3 m, .int .i64 at3, .int .u64 hold3, .int .i64 nb3, .int .i64 0, .bool true], .lst 5 1 (R.ints .u8 xs)]⟩ ?_ ⟨_, _, _, at3, hold3, nb3, y0, 0, hF3, hQ2, rfl, rfl⟩
        have dc0 : ∀ (N : Nat) (H1 : List Ck), 1 < N → H1[0]? = some (.vw dc) → subC 4 N [0, 1, 2, 3] H1 0 0 (.vw dc) := fun N H1 hN h => dc_v hD hN rfl h
        exact Sc [0, 1, 2, 3] (by repeat' (first | exact dc0 _ _ (Nat.le_of_ble_eq_true rfl) rfl | exact trivial | exact fun _ => rfl | exact fun h => absurd h (by simp) | exact subC_ints rfl | refine And.intro ?_ ?_ | rfl | (simp [subH_nil, hLts, hLt, renCk, renC, sg, Ck.cells, R_ints_ren, R_ints_hLts]; done)))
      · have hfit := h
        (try simp only [wA hA] at hfit)
        (try rw [h]); clear h
        cbv
        (try simp only [ncast] at *)
        refine bindO_some hD.r1 ?_
        cbv
        (try simp only [ncast] at *)
        refine ifB_intro (fun h => ?_) (fun h => ?_)
        · have hsh := h
          (try simp only [wA hA] at hsh)
          (try rw [h]); clear h
          cbv
          (try simp only [ncast] at *)
          have hQ2 := hno hS2 (by omega) 3 (.inl ⟨by omega, rfl⟩)
          subst hA hq
          refine Fin_of ⟨[(4, .int .i64 (-1)), (5, .int .i64 3)], [.vw dc, .vw (R.ints .i64 sy), .box 70 [.lst 3 m, .int .i64 at2, .int .u64 hold2, .int .i64 nb2, .int .i64 0, .bool true], .lst 5 1 (R.ints .u8 xs)]⟩ ?_ ⟨_, _, _, at2, hold2, nb2, (-1), 3, hF2, hQ2, rfl, rfl⟩
          have dc0 : ∀ (N : Nat) (H1 : List Ck), 1 < N → H1[0]? = some (.vw dc) → subC 4 N [0, 1, 2, 3] H1 0 0 (.vw dc) := fun N H1 hN h => dc_v hD hN rfl h
          exact Sc [0, 1, 2, 3] (by repeat' (first | exact dc0 _ _ (Nat.le_of_ble_eq_true rfl) rfl | exact trivial | exact fun _ => rfl | exact fun h => absurd h (by simp) | exact subC_ints rfl | refine And.intro ?_ ?_ | rfl | (simp [subH_nil, hLts, hLt, renCk, renC, sg, Ck.cells, R_ints_ren, R_ints_hLts]; done)))
        · have hsh := h
          (try simp only [wA hA] at hsh)
          (try rw [h]); clear h
          cbv
          (try simp only [ncast] at *)
          have hQ2 := hno hS2 (by omega) 7 (.inr ⟨by omega, rfl⟩)
          subst hA hq
          refine Fin_of ⟨[(4, .int .i64 (-1)), (5, .int .i64 7)], [.vw dc, .vw (R.ints .i64 sy), .box 70 [.lst 3 m, .int .i64 at2, .int .u64 hold2, .int .i64 nb2, .int .i64 0, .bool true], .lst 5 1 (R.ints .u8 xs)]⟩ ?_ ⟨_, _, _, at2, hold2, nb2, (-1), 7, hF2, hQ2, rfl, rfl⟩
          have dc0 : ∀ (N : Nat) (H1 : List Ck), 1 < N → H1[0]? = some (.vw dc) → subC 4 N [0, 1, 2, 3] H1 0 0 (.vw dc) := fun N H1 hN h => dc_v hD hN rfl h
          exact Sc [0, 1, 2, 3] (by repeat' (first | exact dc0 _ _ (Nat.le_of_ble_eq_true rfl) rfl | exact trivial | exact fun _ => rfl | exact fun h => absurd h (by simp) | exact subC_ints rfl | refine And.intro ?_ ?_ | rfl | (simp [subH_nil, hLts, hLt, renCk, renC, sg, Ck.cells, R_ints_ren, R_ints_hLts]; done)))
    · have hn0 := h
      (try simp only [wA hA] at hn0)
      (try rw [h]); clear h
      cbv
      (try simp only [ncast] at *)
      refine bindO_some hD.r1 ?_
      cbv
      (try simp only [ncast] at *)
      refine ifB_intro (fun h => ?_) (fun h => ?_)
      · have hsh := h
        (try simp only [wA hA] at hsh)
        (try rw [h]); clear h
        cbv
        (try simp only [ncast] at *)
        have hQ2 := hno hS2 (by omega) 3 (.inl ⟨by omega, rfl⟩)
        subst hA hq
        refine Fin_of ⟨[(4, .int .i64 (-1)), (5, .int .i64 3)], [.vw dc, .vw (R.ints .i64 sy), .box 70 [.lst 3 m, .int .i64 at2, .int .u64 hold2, .int .i64 nb2, .int .i64 0, .bool true], .lst 5 1 (R.ints .u8 xs)]⟩ ?_ ⟨_, _, _, at2, hold2, nb2, (-1), 3, hF2, hQ2, rfl, rfl⟩
        have dc0 : ∀ (N : Nat) (H1 : List Ck), 1 < N → H1[0]? = some (.vw dc) → subC 4 N [0, 1, 2, 3] H1 0 0 (.vw dc) := fun N H1 hN h => dc_v hD hN rfl h
        exact Sc [0, 1, 2, 3] (by repeat' (first | exact dc0 _ _ (Nat.le_of_ble_eq_true rfl) rfl | exact trivial | exact fun _ => rfl | exact fun h => absurd h (by simp) | exact subC_ints rfl | refine And.intro ?_ ?_ | rfl | (simp [subH_nil, hLts, hLt, renCk, renC, sg, Ck.cells, R_ints_ren, R_ints_hLts]; done)))
      · have hsh := h
        (try simp only [wA hA] at hsh)
        (try rw [h]); clear h
        cbv
        (try simp only [ncast] at *)
        have hQ2 := hno hS2 (by omega) 7 (.inr ⟨by omega, rfl⟩)
        subst hA hq
        refine Fin_of ⟨[(4, .int .i64 (-1)), (5, .int .i64 7)], [.vw dc, .vw (R.ints .i64 sy), .box 70 [.lst 3 m, .int .i64 at2, .int .u64 hold2, .int .i64 nb2, .int .i64 0, .bool true], .lst 5 1 (R.ints .u8 xs)]⟩ ?_ ⟨_, _, _, at2, hold2, nb2, (-1), 7, hF2, hQ2, rfl, rfl⟩
        have dc0 : ∀ (N : Nat) (H1 : List Ck), 1 < N → H1[0]? = some (.vw dc) → subC 4 N [0, 1, 2, 3] H1 0 0 (.vw dc) := fun N H1 hN h => dc_v hD hN rfl h
        exact Sc [0, 1, 2, 3] (by repeat' (first | exact dc0 _ _ (Nat.le_of_ble_eq_true rfl) rfl | exact trivial | exact fun _ => rfl | exact fun h => absurd h (by simp) | exact subC_ints rfl | refine And.intro ?_ ?_ | rfl | (simp [subH_nil, hLts, hLt, renCk, renC, sg, Ck.cells, R_ints_ren, R_ints_hLts]; done)))
end Go.Sx

/- canon: the document's own answers (04): what lengths are. -/
set_option maxRecDepth 100000
set_option maxHeartbeats 4000000
set_option linter.unusedVariables false
set_option linter.unusedSimpArgs false
namespace Go.Sx
open Go.Proofs.Tryd

/-- The weight, word by word. -/
def wl : List Int → Int
  | [] => 0
  | a :: l => (if 0 < a then 2 ^ (16 - a.toNat) else 0) + wl l
theorem wl_app (a : Int) : ∀ l, wl (l ++ [a]) = wl l + (if 0 < a then 2 ^ (16 - a.toNat) else 0)
  | [] => by simp [wl]
  | b :: l => by simp only [List.cons_append, wl, wl_app a l]; omega
theorem cvec_get (l : List Int) (j : Nat) (hj : j < 17) : (cvec l).getD j 0 = if j = 0 then 0 else cn l j := by
  unfold cvec
  simp only [List.getD, List.getElem?_map]
  rw [List.getElem?_range hj]
  rfl
theorem wg_cons (a : Int) (l : List Int) (h0 : 0 ≤ a) : ∀ j, j ≤ 17 → wg (cvec (a :: l)) j = (if 0 < a ∧ a < (j : Int) then 2 ^ (16 - a.toNat) else 0) + wg (cvec l) j
  | 0, _ => by rw [if_neg (by omega)]; rfl
  | j + 1, hj => by
    have ih := wg_cons a l h0 j (by omega)
    simp only [wg]
    rw [ih, cvec_get _ j (by omega), cvec_get _ j (by omega)]
    by_cases hj0 : j = 0
    · subst hj0
      rw [if_neg (show ¬ (0 < a ∧ a < ((0 : Nat) : Int)) by omega), if_neg (show ¬ (0 < a ∧ a < ((0 + 1 : Nat) : Int)) by omega), if_pos rfl]
      show 0 + wg (cvec l) 0 + 0 * 2 ^ (16 - 0) = _
      omega
    · rw [if_neg hj0, if_neg hj0]
      simp only [cn]
      by_cases ha : a = (j : Int)
      · subst ha
        rw [if_neg (by omega), if_pos rfl, if_pos (by omega), Int.toNat_natCast, Int.add_mul, Int.one_mul]
        omega
      · rw [if_neg ha, Int.zero_add]
        by_cases h1 : 0 < a ∧ a < (j : Int)
        · rw [if_pos h1, if_pos (by omega)]; omega
        · rw [if_neg h1, if_neg (by omega)]; omega
theorem wg_wl : ∀ (l : List Int), (∀ a ∈ l, 0 ≤ a ∧ a ≤ 16) → wg (cvec l) 17 = wl l
  | [], _ => by
    have key : ∀ j, j ≤ 17 → wg (cvec []) j = 0 := by
      intro j
      induction j with
      | zero => intro _; rfl
      | succ j ih =>
        intro hj
        simp only [wg]
        rw [ih (by omega), cvec_get _ j (by omega)]
        simp [cn]
    exact key 17 (Nat.le_refl _)
  | a :: l, h => by
    have ha := h a (List.mem_cons_self ..)
    rw [wg_cons a l ha.1 17 (Nat.le_refl _), wg_wl l fun b hb => h b (List.mem_cons_of_mem _ hb)]
    simp only [wl]
    by_cases h0 : 0 < a
    · rw [if_pos h0, if_pos (by omega)]
    · rw [if_neg h0, if_neg (by omega)]
theorem wl_bnd : ∀ (l : List Int), 0 ≤ wl l ∧ wl l ≤ 32768 * (l.length : Int)
  | [] => by simp [wl]
  | a :: l => by
    have ih := wl_bnd l
    have hp : (2 : Int) ^ (16 - a.toNat) ≥ 1 ∧ (0 < a → (2 : Int) ^ (16 - a.toNat) ≤ 32768) := by
      have h2 : 0 < (2 : Nat) ^ (16 - a.toNat) := Nat.pow_pos (by decide)
      have e : ((2 ^ (16 - a.toNat) : Nat) : Int) = (2 : Int) ^ (16 - a.toNat) := Int.natCast_pow 2 (16 - a.toNat)
      rw [← e]
      refine ⟨Int.ofNat_le.2 h2, fun h => Int.ofNat_le.2 ?_⟩
      exact Nat.le_trans (Nat.pow_le_pow_right (by decide) (show 16 - a.toNat ≤ 15 by omega)) (by decide)
    simp only [wl, List.length_cons]
    split <;> omega

theorem pow_half (x k : Nat) (h : k < x) (hx : x ≤ 16) : ((2 : Int) ^ (16 - k)).tdiv 2 = 2 ^ (16 - (k + 1)) := by
  rw [show 16 - k = (16 - (k + 1)) + 1 by omega, Int.pow_succ, Int.mul_tdiv_cancel _ (by decide)]

theorem s_rcheck (l : List Int) (ln : Nat) (hln : ln = l.length) (hll : l.length ≤ 1000000) : Spec prog 41 [.sl 0 0 ln false] [.vw (R.ints .i64 l)] (fun r H => ∃ y, ChkQ l y ∧ r = .int .i64 y ∧ H = [.vw (R.ints .i64 l)]) := by
  refine Spec_of_kX (D := fun i => (0, [])) (ks := [0, 2, 3, 4, 5, 6]) tok mixed (fn := f41) rfl rfl rfl (by kernel_rfl) (N := 52) rfl (rs := [.tmp 2]) rfl (Nat.le_of_ble_eq_true rfl) fun A C Kp E ag L q hA hC hK hE hag hL hq => ?_
  rw [← hA]
  cbv
  (try simp only [ncast] at *)
  refine ifB_intro (fun h => ?_) (fun h => ?_)
  · have hbig := h
    (try simp only [wA hA] at hbig)
    (try rw [h]); clear h
    cbv
    (try simp only [ncast] at *)
    have hno : ¬ okL l := fun h => by have := h.1; omega
    subst hA hq
    exact ⟨5, (.inl ⟨hno, rfl⟩), rfl, rfl⟩
  have hsmall := h
  (try simp only [wA hA] at hsmall)
  (try rw [h]); clear h
  cbv
  (try simp only [ncast] at *)
  rw [hL]
  refine loop_keep (fun kk s => ∃ (i w : Int) (j : Nat), i = (j : Int) ∧ j ≤ l.length ∧ w = wl (l.take j) ∧ (∀ a ∈ l.take j, 0 ≤ a ∧ a ≤ 16) ∧ kk = l.length - j ∧ s = ⟨[(0, .sl 0 0 ln false), (2, .int .i64 0), (3, .int .i64 w), (4, .int .i64 i)], [.vw (A.ints .i64 l)]⟩)
    [0, 2, 3, 4] l.length ⟨0, 0, 0, rfl, by omega, rfl, by simp, rfl, rfl⟩ ?_
  rintro kk _ ⟨i, w, j, hi, hj, hw, hin, hkk, rfl⟩
  have hwb := wl_bnd (l.take j)
  rw [← hw] at hwb
  have hlt2 : (l.take j).length ≤ 1000000 := by simp; omega
  cbv
  (try simp only [ncast] at *)
  refine ifB_intro (fun h => ?_) (fun h => ?_)
  · have hlt := h
    (try simp only [wA hA] at hlt)
    (try rw [h]); clear h
    cbv
    (try simp only [ncast] at *)
    refine rdA hA (by (first | omega | (try simp only [wA hA, wB hA, Go.IntKind.wrap_i64] at *) <;> omega | (try simp only [decide_eq_true_eq, decide_eq_false_iff_not, beq_iff_eq, beq_eq_false_iff_ne, bne_iff_ne, bne_eq_false_iff_eq, Bool.not_eq_true', Bool.not_eq_false', ncast, Int.not_lt, Int.not_le, ne_eq, not_true_eq_false, not_false_eq_true, false_or, true_and, Go.IntKind.wrap_i64] at *) <;> omega)) (by (first | omega | (try simp only [wA hA, wB hA, Go.IntKind.wrap_i64] at *) <;> omega | (try simp only [decide_eq_true_eq, decide_eq_false_iff_not, beq_iff_eq, beq_eq_false_iff_ne, bne_iff_ne, bne_eq_false_iff_eq, Bool.not_eq_true', Bool.not_eq_false', ncast, Int.not_lt, Int.not_le, ne_eq, not_true_eq_false, not_false_eq_true, false_or, true_and, Go.IntKind.wrap_i64] at *) <;> omega)) fun x hx => ?_
    cbv
    (try simp only [ncast] at *)
    have hji : 0 + i.toNat = j := by omega
    rw [hji] at hx
    have hjl : j < l.length := by omega
    have hmem : x ∈ l := by rw [hx]; simp [List.getD, hjl]
    have htk : l.take (j + 1) = l.take j ++ [x] := by
      rw [List.take_add_one, hx]
      simp [List.getD, hjl]
    refine ifB_intro (fun h => ?_) (fun h => ?_)
    · have hneg := h
      (try simp only [wA hA] at hneg)
      (try rw [h]); clear h
      cbv
      (try simp only [ncast] at *)
      have hno : ¬ okL l := fun h => by have := h.2 x hmem; omega
      subst hA hq
      exact ⟨5, (.inl ⟨hno, rfl⟩), rfl, rfl⟩
    · have hneg := h
      (try simp only [wA hA] at hneg)
      (try rw [h]); clear h
      cbv
      (try simp only [ncast] at *)
      refine rdA hA (by omega) (by omega) fun x2 hx2 => ?_
      rw [hji, ← hx] at hx2
      obtain rfl : x = x2 := hx2.symm
      cbv
      (try simp only [ncast] at *)
      refine ifB_intro (fun h => ?_) (fun h => ?_)
      · have hhi := h
        (try simp only [wA hA] at hhi)
        (try rw [h]); clear h
        cbv
        (try simp only [ncast] at *)
        have hno : ¬ okL l := fun h => by have := h.2 x hmem; omega
        subst hA hq
        exact ⟨5, (.inl ⟨hno, rfl⟩), rfl, rfl⟩
      · have hhi := h
        (try simp only [wA hA] at hhi)
        (try rw [h]); clear h
        cbv
        (try simp only [ncast] at *)
        refine rdA hA (by omega) (by omega) fun x2 hx2 => ?_
        rw [hji, ← hx] at hx2
        obtain rfl : x = x2 := hx2.symm
        cbv
        (try simp only [ncast] at *)
        have e : IntKind.i64.wrap (i + 1) = i + 1 := wrap64 (by omega)
        have hin2 : ∀ a ∈ l.take (j + 1), 0 ≤ a ∧ a ≤ 16 := by
          rw [htk]
          intro a ha
          rcases List.mem_append.1 ha with ha | ha
          · exact hin a ha
          · have : a = x := by simpa using ha
            omega
        refine ifB_intro (fun h => ?_) (fun h => ?_)
        · have hpos := h
          (try simp only [wA hA] at hpos)
          (try rw [h]); clear h
          cbv
          (try simp only [ncast] at *)
          obtain ⟨xn, hxn⟩ : ∃ xn : Nat, x = (xn : Int) := ⟨x.toNat, by omega⟩
          have hxt : x.toNat = xn := by omega
          refine loop_keep (fun k2 s => ∃ (o q : Int) (k : Nat), q = (k : Int) ∧ k ≤ xn ∧ o = 2 ^ (16 - k) ∧ k2 = xn - k ∧ s = ⟨[(0, .sl 0 0 ln false), (2, .int .i64 0), (3, .int .i64 w), (4, .int .i64 i), (5, .int .i64 o), (6, .int .i64 q)], [.vw (A.ints .i64 l)]⟩)
            [0, 2, 3, 4, 5, 6] xn ⟨65536, 0, 0, rfl, by omega, by decide, rfl, rfl⟩ ?_
          rintro k2 _ ⟨o, q, k, hq1, hk, ho, hk2, rfl⟩
          cbv
          (try simp only [ncast] at *)
          refine rdA hA (by omega) (by omega) fun x3 hx3 => ?_
          rw [hji, ← hx] at hx3
          obtain rfl : x = x3 := hx3.symm
          cbv
          (try simp only [ncast] at *)
          refine ifB_intro (fun h => ?_) (fun h => ?_)
          · have hlt2 := h
            (try simp only [wA hA] at hlt2)
            (try rw [h]); clear h
            cbv
            (try simp only [ncast] at *)
            refine ⟨by simp only [ne0A hA]; decide, ?_⟩
            have hpw : 0 < (2 : Int) ^ (16 - k) ∧ (2 : Int) ^ (16 - k) ≤ 65536 := by
              have e2 : ((2 ^ (16 - k) : Nat) : Int) = (2 : Int) ^ (16 - k) := Int.natCast_pow 2 (16 - k)
              have h2 : 0 < (2 : Nat) ^ (16 - k) := Nat.pow_pos (by decide)
              have h3 : (2 : Nat) ^ (16 - k) ≤ 65536 := Nat.le_trans (Nat.pow_le_pow_right (by decide) (show 16 - k ≤ 16 by omega)) (by decide)
              omega
            have hq2 : A.bin .quo .i64 o 2 = 2 ^ (16 - (k + 1)) := by
              rw [quoA hA, ho, pow_half xn k (by omega) (by omega), wrap64]
              have e2 : ((2 ^ (16 - (k + 1)) : Nat) : Int) = (2 : Int) ^ (16 - (k + 1)) := Int.natCast_pow 2 (16 - (k + 1))
              have h2 : 0 < (2 : Nat) ^ (16 - (k + 1)) := Nat.pow_pos (by decide)
              have h3 : (2 : Nat) ^ (16 - (k + 1)) ≤ 65536 := Nat.le_trans (Nat.pow_le_pow_right (by decide) (show 16 - (k + 1) ≤ 16 by omega)) (by decide)
              omega
            have hq3 : A.bin .add .i64 q 1 = q + 1 := by rw [addA hA, wrap64 (by omega)]
            simp only [hq2, hq3]
            subst hag
            exact again_keep [0, 2, 3, 4, 5, 6] (xn - (k + 1)) (by omega) ⟨_, q + 1, k + 1, by omega, by omega, rfl, rfl, rfl⟩
          · have hge2 := h
            (try simp only [wA hA] at hge2)
            (try rw [h]); clear h
            cbv
            (try simp only [ncast] at *)
            have hkx : k = xn := by omega
            have hpw : 0 < (2 : Int) ^ (16 - k) ∧ (2 : Int) ^ (16 - k) ≤ 65536 := by
              have e2 : ((2 ^ (16 - k) : Nat) : Int) = (2 : Int) ^ (16 - k) := Int.natCast_pow 2 (16 - k)
              have h2 : 0 < (2 : Nat) ^ (16 - k) := Nat.pow_pos (by decide)
              have h3 : (2 : Nat) ^ (16 - k) ≤ 65536 := Nat.le_trans (Nat.pow_le_pow_right (by decide) (show 16 - k ≤ 16 by omega)) (by decide)
              omega
            have hw2 : A.bin .add .i64 w o = wl (l.take (j + 1)) := by
              rw [addA hA, wrap64 (by omega), htk, wl_app, if_pos (by omega), hxt, hw, ho, hkx]
            have hi2 : A.bin .add .i64 i 1 = i + 1 := by rw [addA hA, e]
            simp only [hw2, hi2]
            subst hag
            exact again_keep [0, 2, 3, 4] (l.length - (j + 1)) (by omega) ⟨i + 1, _, j + 1, by omega, by omega, rfl, hin2, rfl, rfl⟩
        · have hzero := h
          (try simp only [wA hA] at hzero)
          (try rw [h]); clear h
          cbv
          (try simp only [ncast] at *)
          have hw2 : w = wl (l.take (j + 1)) := by
            rw [htk, wl_app, if_neg (by omega), hw]; omega
          have hi2 : A.bin .add .i64 i 1 = i + 1 := by rw [addA hA, e]
          simp only [hi2]
          subst hag
          exact again_keep [0, 2, 3, 4] (l.length - (j + 1)) (by omega) ⟨i + 1, w, j + 1, by omega, by omega, hw2, hin2, rfl, rfl⟩
  · have hge := h
    (try simp only [wA hA] at hge)
    (try rw [h]); clear h
    cbv
    (try simp only [ncast] at *)
    have hjl : j = l.length := by omega
    rw [hjl, List.take_length] at hin hw
    have hok : okL l := ⟨by omega, hin⟩
    rw [← wg_wl l hin] at hw
    refine ifB_intro (fun h => ?_) (fun h => ?_)
    · have h0 := h
      (try simp only [wA hA] at h0)
      (try rw [h]); clear h
      cbv
      (try simp only [ncast] at *)
      subst hA hq
      exact ⟨4, (.inr ⟨hok, .inl ⟨by omega, rfl⟩⟩), rfl, rfl⟩
    · have h0 := h
      (try simp only [wA hA] at h0)
      (try rw [h]); clear h
      cbv
      (try simp only [ncast] at *)
      refine ifB_intro (fun h => ?_) (fun h => ?_)
      · have h1 := h
        (try simp only [wA hA] at h1)
        (try rw [h]); clear h
        cbv
        (try simp only [ncast] at *)
        subst hA hq
        exact ⟨2, (.inr ⟨hok, .inr (.inl ⟨by omega, by omega, rfl⟩)⟩), rfl, rfl⟩
      · have h1 := h
        (try simp only [wA hA] at h1)
        (try rw [h]); clear h
        cbv
        (try simp only [ncast] at *)
        refine ifB_intro (fun h => ?_) (fun h => ?_)
        · have h2 := h
          (try simp only [wA hA] at h2)
          (try rw [h]); clear h
          cbv
          (try simp only [ncast] at *)
          subst hA hq
          exact ⟨3, (.inr ⟨hok, .inr (.inr (.inl ⟨by omega, by omega, rfl⟩))⟩), rfl, rfl⟩
        · have h2 := h
          (try simp only [wA hA] at h2)
          (try rw [h]); clear h
          cbv
          (try simp only [ncast] at *)
          subst hA hq
          exact ⟨1, (.inr ⟨hok, .inr (.inr (.inr ⟨by omega, rfl⟩))⟩), rfl, rfl⟩

/-- The longest of rows. -/
def mxL : List (List Int) → Int
  | [] => 0
  | r :: rs => let m := mxL rs; if m < r.getD 1 0 then r.getD 1 0 else m
end Go.Sx
