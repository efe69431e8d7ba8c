/- New writers, what was written taken out and opened; the law of there and back: its walk. -/
import Derived.Test.YtgedlkmfhahdpaaFw
import Derived.Test.YtgedlkmfhahdpaaFs
import Derived.Test.YtgedlkmfhahdpaaFa
set_option maxRecDepth 100000
set_option linter.unusedVariables false
set_option linter.unusedSimpArgs false
namespace Go.Sx
open Go.Proofs.Try

theorem s_neww : Spec prog 35 [] [] (fun r H => r = .ptr 0 0 ∧ H = [.box 88 [.lst 1 0, .int .u64 0, .int .i64 0], .lst 5 1 []]) := by
  refine Spec_of_xF (D := fun i => (0, [])) (ks := [0]) tok mixed (fn := f35) rfl rfl rfl (by kernel_rfl) (N := 3) rfl (rs := [.tmp 0]) rfl (Nat.le_of_ble_eq_true rfl) fun A C ag L q hA hC hag hL hq => ?_
  cbv
  subst hq
  exact Fin_of _ (Sub_nil (h := 0) (j := 0) (T := 88) (e := 5) (sz := 1) rfl rfl) ⟨rfl, rfl⟩

section
variable {A : Ar} {C : CallT} {W : Int} {P k n hb hr : Nat} {ys : List Int} {hold nI : Int} {s : St} {κ : List Nat → SV → List Ck → Prop}

theorem call_neww (hC : C = CallX prog) (hA : A = R)
    (hk : κ [] (.ptr (len1 s.H) 0) (apd s.H [.box 88 [.lst (len1 s.H + 1) 0, .int .u64 0, .int .i64 0], .lst 5 1 (A.ints .u8 [])])) : C 35 [] s κ := by
  refine cal_of hC s_neww [] trivial trivial trivial ?_
  rintro _ _ ⟨rfl, rfl⟩
  refine ⟨_, _, s.H ++ [.box 88 [.lst (s.H.length + 1) 0, .int .u64 0, .int .i64 0], .lst 5 1 (A.ints .u8 [])], rfl, rfl, ?_, ?_⟩
  · subst hA; rfl
  · rw [len1_eq, apd_eq] at hk
    exact hk

theorem call_wbytes (hC : C = CallX prog) (hA : A = R) (hF : WF W P ys k n hold nI) (hn : n < 8) (hl : ys.length ≤ 10000000000)
    (h4 : s.H[hb]? = some (.box 88 [.lst hr k, .int .u64 hold, .int .i64 nI])) (h5 : s.H[hr]? = some (.lst 5 1 (A.ints .u8 ys)))
    (hk : ∀ (zs : List Int) (k' : Nat), WB W P zs → k' = zs.length → κ [] (.lst (len1 s.H + 1) k') (apd s.H [.gone, .lst 5 1 (A.ints .u8 zs)])) : C 43 [.ptr hb 0] s κ := by
  have hS := s_wbytes W P k n ys hold nI hF hn hl
  rw [← hA] at hS
  refine cal_of hC hS [(hb, 0, false), (hr, 0, false)] ⟨by simp, by simp, trivial⟩ ⟨⟨(show 1 < 2 by omega), trivial, trivial, trivial⟩, ⟨rfl, trivial, trivial, trivial⟩, ?_, hLtsA hA .., zOksA hA .., ?_, trivial⟩ ⟨⟨(show 0 < 2 by omega), trivial, rfl⟩, trivial⟩ ?_
  · rw [cellsAt_eq h4 (by simp [Ck.cells])]; rfl
  · rw [renA hA, cellsAt_eq h5 (by simp [Ck.cells])]; simp [Ck.cells]
  rintro _ _ ⟨zs, k', hW, hk', rfl, rfl⟩
  refine ⟨_, _, s.H ++ [.gone, .lst 5 1 (A.ints .u8 zs)], rfl, rfl, ?_, ?_⟩
  · simp only [backH, List.map_cons, List.map_nil, renCk, renA hA]
    rfl
  · have := hk zs k' hW hk'
    rw [len1_eq, apd_eq] at this
    exact this

/-- Open, of a row of one's own. -/
theorem call_openl (hC : C = CallX prog) (hA : A = R) {xs : List Int} (hx : RX xs k) (h4 : s.H[hb]? = some (.lst 5 1 (A.ints .u8 xs)))
    (hk : κ [] (.ptr (len1 s.H + 2) 0) (apd s.H [.gone, .lst 5 1 (A.ints .u8 xs), .box 86 [.lst (len1 s.H + 1) k, .int .i64 0, .int .u64 0, .int .i64 0, .int .i64 0, .bool true]])) : C 15 [.lst hb k] s κ := by
  have hS := s_open xs k hx
  rw [← hA] at hS
  refine cal_of hC hS [(hb, 0, false)] ⟨by simp, trivial⟩ ⟨hLtsA hA .., zOksA hA .., ?_, trivial⟩ ⟨⟨(show 0 < 1 by omega), rfl, rfl, rfl, rfl⟩, trivial⟩ ?_
  · rw [renA hA, cellsAt_eq h4 (by simp [Ck.cells])]; simp [Ck.cells]
  rintro _ _ ⟨rfl, rfl⟩
  refine ⟨_, _, s.H ++ [.gone, .lst 5 1 (A.ints .u8 xs), .box 86 [.lst (s.H.length + 1) k, .int .i64 0, .int .u64 0, .int .i64 0, .int .i64 0, .bool true]], rfl, rfl, ?_, ?_⟩
  · simp only [backH, List.map_cons, List.map_nil, renCk, renA hA]
    rfl
  · rw [len1_eq, apd_eq] at hk
    exact hk
end

theorem WF_0 : WF 0 0 [] 0 0 0 0 := ⟨rfl, rfl, rfl, by decide, by decide, fun x hx => by (cases hx), by simp [V]⟩

def WrK : List FK := [.num .i64, .num .i64, .num .u32, .any]
/-- How many bits of a row are written, which they are, all from a row on, how many. -/
def NN (g : Nat → Nat → Int) (i : Nat) : Nat := (within (g i 1) 0 32).toNat
def XX (g : Nat → Nat → Int) (i : Nat) : Int := g i 2 % 2 ^ NN g i
def SS (g : Nat → Nat → Int) : Nat → Nat → Int
  | _, 0 => 0
  | i, m + 1 => XX g i + 2 ^ NN g i * SS g (i + 1) m
def PP (g : Nat → Nat → Int) : Nat → Nat → Nat
  | _, 0 => 0
  | i, m + 1 => NN g i + PP g (i + 1) m

theorem NN_le (g : Nat → Nat → Int) (i : Nat) : NN g i ≤ 32 ∧ within (g i 1) 0 32 = NN g i := by
  unfold NN within
  split <;> (try split) <;> omega
theorem XX_bnd (g : Nat → Nat → Int) (i : Nat) : 0 ≤ XX g i ∧ XX g i < 2 ^ NN g i :=
  ⟨Int.emod_nonneg _ (Int.ne_of_gt (pow_pos2 _)), Int.emod_lt_of_pos _ (pow_pos2 _)⟩
theorem SS_nonneg (g : Nat → Nat → Int) : ∀ (m i : Nat), 0 ≤ SS g i m
  | 0, _ => Int.le_refl _
  | m + 1, i => Int.add_nonneg (XX_bnd g i).1 (Int.mul_nonneg (Int.le_of_lt (pow_pos2 _)) (SS_nonneg g m (i + 1)))

/-- While it is written. -/
structure BW (g : Nat → Nat → Int) (m i : Nat) (W : Int) (P : Nat) (ys : List Int) (k n : Nat) (hold nI tot iI : Int) : Prop where
  f : WF W P ys k n hold nI
  n8 : n < 8
  w : W + 2 ^ P * SS g i (m - i) = SS g 0 m
  p : P + PP g i (m - i) = PP g 0 m
  b : P ≤ 32 * i
  t : tot = P
  i_ : iI = i
  im : i ≤ m
/-- While it is read. -/
structure BR (g : Nat → Nat → Int) (m i : Nat) (zs : List Int) (p a b : Nat) (at_ hold nb iI : Int) : Prop where
  f : RF zs p a b at_ hold nb
  v : V zs / 2 ^ p = SS g i (m - i)
  p_ : p + PP g i (m - i) = PP g 0 m
  i_ : iI = i
  im : i ≤ m

theorem BW_len {g : Nat → Nat → Int} {m i : Nat} {W : Int} {P : Nat} {ys : List Int} {k n : Nat} {hold nI tot iI : Int} (h : BW g m i W P ys k n hold nI tot iI) (hm : m ≤ 80) : ys.length ≤ 10000000000 := by
  obtain ⟨h1, h2, h3, h4, h5, h6, h7⟩ := h.f
  have := h.b
  have := h.im
  omega

theorem BW_step {g : Nat → Nat → Int} {m i : Nat} {W : Int} {P : Nat} {ys : List Int} {k n : Nat} {hold nI tot iI : Int} {ys' : List Int} {k' n' : Nat} {hold' nI' tot' iI' : Int} (h : BW g m i W P ys k n hold nI tot iI) (hm : i < m)
    (hf : WF (W + 2 ^ P * XX g i) (P + NN g i) ys' k' n' hold' nI') (hn : n' < 8) (ht : tot' = tot + NN g i) (hi : iI' = iI + 1) : BW g m (i + 1) (W + 2 ^ P * XX g i) (P + NN g i) ys' k' n' hold' nI' tot' iI' := by
  obtain ⟨h1, h2, h3, h4, h5, h6, h7, h8⟩ := h
  obtain ⟨q, hq⟩ : ∃ q, m - i = q + 1 := ⟨m - i - 1, by omega⟩
  have hq' : m - (i + 1) = q := by omega
  have hN := (NN_le g i).1
  rw [hq] at h3 h4
  refine ⟨hf, hn, ?_, ?_, by omega, by omega, by omega, by omega⟩
  · rw [hq', ← h3]
    simp only [SS, Int.pow_add, Int.mul_add, Int.mul_assoc, Int.add_assoc]
  · rw [hq', ← h4]
    simp only [PP]; omega

theorem BR_bits {g : Nat → Nat → Int} {m i : Nat} {zs : List Int} {p a b : Nat} {at_ hold nb iI : Int} (h : BR g m i zs p a b at_ hold nb iI) (hm : i < m) : cut (V zs) p (NN g i) = XX g i := by
  obtain ⟨q, hq⟩ : ∃ q, m - i = q + 1 := ⟨m - i - 1, by omega⟩
  have hv := h.v
  rw [hq] at hv
  unfold cut
  rw [hv]
  simp only [SS]
  have hb := XX_bnd g i
  rw [Int.add_mul_emod_self_left, Int.emod_eq_of_lt hb.1 hb.2]
theorem BR_step {g : Nat → Nat → Int} {m i : Nat} {zs : List Int} {p a b a' b' : Nat} {at_ hold nb iI at_' hold' nb' iI' : Int} (h : BR g m i zs p a b at_ hold nb iI) (hm : i < m) (hf : RF zs (p + NN g i) a' b' at_' hold' nb') (hi : iI' = iI + 1) :
    BR g m (i + 1) zs (p + NN g i) a' b' at_' hold' nb' iI' := by
  obtain ⟨q, hq⟩ : ∃ q, m - i = q + 1 := ⟨m - i - 1, by omega⟩
  have hq' : m - (i + 1) = q := by omega
  obtain ⟨h1, h2, h3, h4, h5⟩ := h
  rw [hq] at h2 h3
  refine ⟨hf, ?_, ?_, by omega, by omega⟩
  · rw [hq', Int.pow_add, ← Int.ediv_ediv_of_nonneg (Int.le_of_lt (pow_pos2 p)), h2]
    simp only [SS]
    have hb := XX_bnd g i
    rw [Int.add_mul_ediv_left _ _ (Int.ne_of_gt (pow_pos2 _)), Int.ediv_eq_zero_of_lt hb.1 hb.2, Int.zero_add]
  · rw [hq', ← h3]
    simp only [PP]; omega
theorem BR_room {g : Nat → Nat → Int} {m i : Nat} {zs : List Int} {p a b : Nat} {at_ hold nb iI : Int} {W : Int} (h : BR g m i zs p a b at_ hold nb iI) (hm : i < m) (hw : WB W (PP g 0 m) zs) : (p : Int) + NN g i ≤ 8 * zs.length := by
  obtain ⟨q, hq⟩ : ∃ q, m - i = q + 1 := ⟨m - i - 1, by omega⟩
  have h3 := h.p_
  rw [hq] at h3
  simp only [PP] at h3
  have := hw.2.1
  omega
theorem WB_RX {W : Int} {P k : Nat} {zs : List Int} (h : WB W P zs) (hk : k = zs.length) (hP : P ≤ 100000000) : RX zs k := ⟨h.2.2, hk, by have := h.2.1; omega⟩
end Go.Sx
