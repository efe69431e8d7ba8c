/- Contracts of functions, and what is plain about them: texts put together. -/
import Derived.Test.YthgcfkmnolokpaaMSd
import Derived.Laws.BitsLemmas
/- Bytes as one number, the lowest first. -/
set_option linter.unusedVariables false
namespace Go.Sx

/-- A row of bytes. -/
def Byt (xs : List Int) : Prop := ∀ x ∈ xs, 0 ≤ x ∧ x < 256

def V : List Int → Int
  | [] => 0
  | x :: r => x + 256 * V r

theorem Byt.take {xs : List Int} (h : Byt xs) (n : Nat) : Byt (xs.take n) := fun x hx => h x (List.mem_of_mem_take hx)
theorem Byt.drop {xs : List Int} (h : Byt xs) (n : Nat) : Byt (xs.drop n) := fun x hx => h x (List.mem_of_mem_drop hx)
end Go.Sx

/- The reader: contracts of its inner functions. -/
set_option maxRecDepth 100000
set_option maxHeartbeats 4000000
set_option linter.unusedVariables false
namespace Go.Sx
open Go.Proofs.Try

theorem wrap64 {n : Int} (h : -9223372036854775808 ≤ n ∧ n ≤ 9223372036854775807) : IntKind.i64.wrap n = n := by rw [Go.IntKind.wrap_i64]; omega
end Go.Sx

/- limit: nodes, rows of nodes, function values that are called; comparing. -/
set_option maxRecDepth 100000
set_option maxHeartbeats 4000000
set_option linter.unusedVariables false
set_option linter.unusedSimpArgs false
namespace Go.Sx
open Go.Proofs.Try

/-- A function value without anything bound, called. -/
theorem hk_callv {Γ : Gam} {P : Program} {E : HkE} (hE : E = HookE P) {C : CallT} (hC : C = CallX P) {s : St} {o : Oper} {κ : List Nat → SV → List Ck → Prop} {x : Operand} {args : Array Operand} {ts : Array TypeId} {f : Nat}
    (ho : o.op = .call ⟨.value x, args, ts⟩) (hx : s.ev x = .val (.func (.func f) #[] #[])) (h : C f (args.toList.map s.ev) s κ) : E s o κ := by
  subst hE hC
  intro G N ρ a w hΓ hr
  obtain ⟨hf, h⟩ := h
  have hv := ev_run hr x
  rw [hx] at hv
  have hv : a.eval x = .func (.func f) #[] #[] := hv
  unfold effV
  have hrun : (execOp a.eval o).run P w = .ok (.enter f (args.map a.eval)) w := by
    simp [execOp, ho, resolve, invoke, Deferred.ofValue, hv, hf.run]
  rw [hrun]
  refine (h G N ρ a w (args.map a.eval).toList hΓ hr (All2_map hr args)).mono fun e w' ⟨v, U, sv, H', ρ', h1, h2, h3, h4, h5, h6⟩ => ⟨v, h1, U, sv, H', ρ', h2, h3, h4, h5, h6⟩

/-- A node: its weight, its symbol; or its weight, its parts. -/
inductive Tr where
  | leaf (w s : Int)
  | nd (w : Int) (a b : Tr)
  deriving Inhabited
def Tr.w : Tr → Int
  | .leaf w _ => w
  | .nd w _ _ => w
def Tr.s : Tr → Int
  | .leaf _ s => s
  | .nd _ _ _ => -1
def Tr.cs : Tr → List SV
  | .leaf w s => [.int .i64 w, .int .i64 s, .nilP, .nilP]
  | .nd w a b => [.int .i64 w, .int .i64 (-1), .fp 0 a.cs, .fp 0 b.cs]
theorem Tr.cs0 (t : Tr) : t.cs[0]? = some (.int .i64 t.w) := by cases t <;> rfl
theorem Tr.cs1 (t : Tr) : t.cs[1]? = some (.int .i64 t.s) := by cases t <;> rfl
theorem Tr.imm (t : Tr) : ∀ c ∈ t.cs, c.imm = true := by cases t <;> simp [Tr.cs, SV.imm]

/-- A row of nodes. -/
def trs (ts : List Tr) : List SV := ts.map fun t => .fp 0 t.cs
structure TRs (ts : List Tr) (cs : List SV) : Prop where
  eq : cs = trs ts
theorem TRs.mk' {ts : List Tr} : TRs ts (trs ts) := ⟨rfl⟩
theorem TRs.nil : TRs [] [] := ⟨rfl⟩
theorem trs_hLts (m : Nat) : ∀ ts : List Tr, hLts m (trs ts)
  | [] => trivial
  | _ :: r => ⟨trivial, trs_hLts m r⟩
theorem trs_zOks (g : Nat → Nat × Nat) : ∀ ts : List Tr, zOks g (trs ts)
  | [] => trivial
  | _ :: r => ⟨trivial, trs_zOks g r⟩
theorem TRs.hLts {ts : List Tr} {cs : List SV} (h : TRs ts cs) (m : Nat) : Sx.hLts m cs := by rw [h.eq]; exact trs_hLts m ts
theorem TRs.zOks {ts : List Tr} {cs : List SV} (h : TRs ts cs) (g : Nat → Nat × Nat) : Sx.zOks g cs := by rw [h.eq]; exact trs_zOks g ts
theorem TRs.ren {ts : List Tr} {cs : List SV} (h : TRs ts cs) (g : Nat → Nat × Nat) : cs.map (renC g) = cs := by
  rw [h.eq]; unfold trs; rw [List.map_map]; exact List.map_congr_left fun t _ => rfl
theorem TRs.len {ts : List Tr} {cs : List SV} (h : TRs ts cs) : cs.length = ts.length := by rw [h.eq]; simp [trs]
theorem TRs.imm {ts : List Tr} {cs : List SV} (h : TRs ts cs) : ∀ c ∈ cs, c.imm = true := by
  rw [h.eq]; intro c hc
  obtain ⟨t, _, rfl⟩ := List.mem_map.1 hc
  rfl
theorem TRs.app {ts : List Tr} {cs : List SV} (h : TRs ts cs) (t : Tr) : TRs (ts ++ [t]) (apd cs [.fp 0 t.cs]) := ⟨by rw [apd_eq, h.eq]; simp [trs]⟩
theorem TRs.at_ {ts : List Tr} {cs : List SV} (h : TRs ts cs) {i : Nat} {t : Tr} (ht : ts[i]? = some t) : cs[i]? = some (.fp 0 t.cs) := by
  rw [h.eq]; simp [trs, ht]
theorem subC_tr {m n : Nat} {σ : List Nat} {H1 : List Ck} {i j e sz : Nat} {ts : List Tr} {cs : List SV} (h : TRs ts cs) (hj : H1[j]? = some (.lst e sz cs)) : subC m n σ H1 i j (.lst e sz cs) :=
  ⟨h.hLts n, by simp only [renCk, h.ren]; exact hj⟩
theorem subC_trv {m n : Nat} {σ : List Nat} {H1 : List Ck} {i j : Nat} {ts : List Tr} {cs : List SV} (h : TRs ts cs) (hi : j = i) (hj : H1[j]? = some (.vw cs)) : subC m n σ H1 i j (.vw cs) :=
  ⟨hi, h.hLts n, hj, h.ren _⟩
section
variable {A : Ar} (hA : A = R) {ts : List Tr} {cs : List SV} (h : TRs ts cs)
include hA h
/-- A node is read. -/
theorem TRs.rd {o n : Nat} {i : Int} {κ : SV → Prop} (h1 : 0 ≤ i ∧ i < n) (h2 : o + i.toNat < ts.length) (hk : ∀ t c, ts[o + i.toNat]? = some t → c = t.cs → κ (.fp 0 c)) :
    A.inr i n ∧ bindO.match_1 (fun _ => Prop) (nth cs (A.ix o i 1)) (fun a => κ a) (fun _ => False) := by
  refine ⟨by rw [inrA hA]; exact h1, ?_⟩
  obtain ⟨t, ht⟩ : ∃ t, ts[o + i.toNat]? = some t := ⟨ts[o + i.toNat], by simp [h2]⟩
  refine bindO_some (a := .fp 0 t.cs) ?_ (hk t _ ht rfl)
  rw [nth_eq, ixA hA, Nat.mul_one]
  exact h.at_ ht
/-- A node is stored. -/
theorem TRs.wr {o n : Nat} {i : Int} {t : Tr} {c : List SV} (hc : c = t.cs) {κ : List SV → Prop} (h1 : 0 ≤ i ∧ i < n) (h2 : o + i.toNat < ts.length) (hk : ∀ us ds, us = ts.set (o + i.toNat) t → TRs us ds → κ ds) :
    A.inr i n ∧ bindO.match_1 (fun _ => Prop) (setO cs (A.ix o i 1) [.fp 0 c]) (fun a => κ a) (fun _ => False) := by
  refine ⟨by rw [inrA hA]; exact h1, ?_⟩
  refine bindO_some (a := trs (ts.set (o + i.toNat) t)) ?_ (hk _ _ rfl TRs.mk')
  rw [ixA hA, Nat.mul_one, setO_of (by rw [h.len]; exact h2), h.eq, hc]
  simp [trs, List.map_set]
end
theorem rdW {t : Tr} {c : List SV} (hc : c = t.cs) {κ : SV → Prop} (hk : ∀ w, w = t.w → κ (.int .i64 w)) : bindO.match_1 (fun _ => Prop) (nth c 0) (fun a => κ a) (fun _ => False) :=
  bindO_some (by rw [nth_eq, hc]; exact t.cs0) (hk _ rfl)
theorem rdS {t : Tr} {c : List SV} (hc : c = t.cs) {κ : SV → Prop} (hk : ∀ s, s = t.s → κ (.int .i64 s)) : bindO.match_1 (fun _ => Prop) (nth c 1) (fun a => κ a) (fun _ => False) :=
  bindO_some (by rw [nth_eq, hc]; exact t.cs1) (hk _ rfl)

theorem s_isNaN (x : Int) : Spec prog 35 [.int .i64 x] [] (fun r H => r = .bool false ∧ H = []) := by
  refine Spec_of_kX (D := fun i => (0, [])) (ks := [0, 2]) tok mixed (fn := f35) rfl rfl rfl (by kernel_rfl) (N := 6) rfl (rs := [.tmp 2]) rfl (Nat.le_of_ble_eq_true rfl) fun A C Kp E ag L q hA hC hK hE hag hL hq => ?_
  cbv
  subst hA hq
  refine ⟨?_, rfl⟩
  show SV.bool (R.cmp .neq x x) = _
  simp [R, rcmp]

/-- How two numbers compare. -/
def cpI (x y : Int) : Int := if x < y then -1 else if y < x then 1 else 0
section
variable {A : Ar} {C : CallT} {s : St} {κ : List Nat → SV → List Ck → Prop}
theorem call_isNaN (hC : C = CallX prog) {x : Int} (hk : κ [] (.bool false) s.H) : C 35 [.int .i64 x] s κ :=
  cal_num hC (s_isNaN x) ⟨⟨trivial, trivial, rfl⟩, trivial⟩ rfl hk
end
theorem s_compare (x y : Int) : Spec prog 32 [.int .i64 x, .int .i64 y] [] (fun r H => r = .int .i64 (cpI x y) ∧ H = []) := by
  refine Spec_of_kX (D := fun i => (0, [])) (ks := [0, 1, 4, 5, 6]) tok mixed (fn := f32) rfl rfl rfl (by kernel_rfl) (N := 20) rfl (rs := [.tmp 4]) rfl (Nat.le_of_ble_eq_true rfl) fun A C Kp E ag L q hA hC hK hE hag hL hq => ?_
  cbv
  refine call_isNaN hC ?_
  cbv
  refine call_isNaN hC ?_
  cbv
  refine ifB_intro (fun h => ?_) (fun h => ?_)
  · have h1 := h
    (try simp only [wA hA] at h1)
    (try rw [h]); clear h
    cbv
    (try simp only [ncast] at *)
    subst hA hq
    exact ⟨by rw [cpI, if_pos h1], rfl⟩
  · have h1 := h
    (try simp only [wA hA] at h1)
    (try rw [h]); clear h
    cbv
    (try simp only [ncast] at *)
    refine ifB_intro (fun h => ?_) (fun h => ?_)
    · have h2 := h
      (try simp only [wA hA] at h2)
      (try rw [h]); clear h
      cbv
      (try simp only [ncast] at *)
      subst hA hq
      exact ⟨by rw [cpI, if_neg (by omega), if_pos h2], rfl⟩
    · have h2 := h
      (try simp only [wA hA] at h2)
      (try rw [h]); clear h
      cbv
      (try simp only [ncast] at *)
      subst hA hq
      exact ⟨by rw [cpI, if_neg (by omega), if_neg (by omega)], rfl⟩
section
variable {A : Ar} {C : CallT} {s : St} {κ : List Nat → SV → List Ck → Prop}
theorem call_compare (hC : C = CallX prog) {x y : Int} (hk : ∀ z, z = cpI x y → κ [] (.int .i64 z) s.H) : C 32 [.int .i64 x, .int .i64 y] s κ :=
  cal_int hC (s_compare x y) ⟨⟨trivial, trivial, rfl⟩, ⟨trivial, trivial, rfl⟩, trivial⟩ hk
end
theorem s_cmpN (t u : Tr) (c d : List SV) (hc : c = t.cs) (hd : d = u.cs) : Spec prog 31 [.fp 0 c, .fp 0 d] [] (fun r H => r = .int .i64 (cpI t.w u.w) ∧ H = []) := by
  refine Spec_of_kX (D := fun i => if i = 1 then (8, []) else (0, [])) (ks := [0, 1, 4]) tok mixed (fn := f31) rfl rfl rfl (by kernel_rfl) (N := 14) rfl (rs := [.tmp 4]) rfl (Nat.le_of_ble_eq_true rfl) fun A C Kp E ag L q hA hC hK hE hag hL hq => ?_
  cbv
  refine rdW hc fun x hx => ?_
  cbv
  refine rdW hd fun y hy => ?_
  cbv
  refine call_compare hC fun z hz => ?_
  cbv
  subst hA hq
  exact ⟨by rw [hz, hx, hy], rfl⟩
section
variable {A : Ar} {C : CallT} {s : St} {κ : List Nat → SV → List Ck → Prop}
theorem call_cmpN (hC : C = CallX prog) {t u : Tr} {c d : List SV} (hc : c = t.cs) (hd : d = u.cs) (hk : ∀ z, z = cpI t.w u.w → κ [] (.int .i64 z) s.H) : C 31 [.fp 0 c, .fp 0 d] s κ := by
  refine cal_of hC (s_cmpN t u c d hc hd) [] trivial trivial ⟨⟨trivial, trivial, rfl⟩, ⟨trivial, trivial, rfl⟩, trivial⟩ ?_
  rintro _ _ ⟨rfl, rfl⟩
  refine ⟨_, _, s.H, rfl, rfl, ?_, hk _ rfl⟩
  simp [backH, setAll]
end
end Go.Sx

/- limit: sorting: swaps, rotations, insertion. -/
set_option maxRecDepth 100000
set_option maxHeartbeats 8000000
set_option linter.unusedVariables false
set_option linter.unusedSimpArgs false
namespace Go.Sx
open Go.Proofs.Try

/-- The function value that compares. -/
abbrev cmpV : SV := .val (.func (.func 31) #[] #[])

/-- i elements of two stretches of n, at a and b, have changed places. -/
def SwQ (ts us : List Tr) (a b i : Nat) : Prop := us.length = ts.length ∧ ∀ q, us[q]? = if a ≤ q ∧ q < a + i then ts[q - a + b]? else if b ≤ q ∧ q < b + i then ts[q - b + a]? else ts[q]?
theorem SwQ_zero (ts : List Tr) (a b : Nat) : SwQ ts ts a b 0 := ⟨rfl, fun q => by rw [if_neg (by omega), if_neg (by omega)]⟩
theorem SwQ_step {ts us : List Tr} {a b i : Nat} {x y : Tr} (h : SwQ ts us a b i) (hab : a + i < b) (hb : b + i < ts.length) (hx : us[a + i]? = some x) (hy : us[b + i]? = some y) : SwQ ts ((us.set (a + i) y).set (b + i) x) a b (i + 1) := by
  obtain ⟨hl, h⟩ := h
  have h1 := h (a + i)
  have h2 := h (b + i)
  rw [if_neg (by omega), if_neg (by omega), hx] at h1
  rw [if_neg (by omega), if_neg (by omega), hy] at h2
  refine ⟨by simp [hl], fun q => ?_⟩
  rw [List.getElem?_set, List.length_set, List.getElem?_set]
  by_cases e1 : b + i = q
  · subst e1
    rw [if_pos rfl, if_pos (by omega), if_neg (by omega), if_pos (by omega), show b + i - b + a = a + i by omega]
    exact h1
  · rw [if_neg e1]
    by_cases e2 : a + i = q
    · subst e2
      rw [if_pos rfl, if_pos (by omega), if_pos (by omega), show a + i - a + b = b + i by omega]
      exact h2
    · rw [if_neg e2, h q]
      by_cases c1 : a ≤ q ∧ q < a + i
      · rw [if_pos c1, if_pos (by omega)]
      · rw [if_neg c1]
        by_cases c2 : b ≤ q ∧ q < b + i
        · rw [if_pos c2, if_neg (by omega), if_pos (by omega)]
        · rw [if_neg c2, if_neg (by omega), if_neg (by omega)]
/-- Whole stretches. -/
theorem SwQ_all {P U V W S us : List Tr} (hu : W.length = U.length) (h : SwQ (P ++ U ++ V ++ W ++ S) us P.length (P.length + U.length + V.length) U.length) : us = P ++ W ++ V ++ U ++ S := by
  obtain ⟨hl, h⟩ := h
  refine List.ext_getElem? fun q => ?_
  rw [h q]
  simp only [List.getElem?_append, List.length_append]
  (repeat' split) <;> first
    | (exfalso; omega)
    | rfl
    | (congr 1; omega)

theorem s_swapRange (ts : List Tr) (n a b m : Nat) (aI bI mI : Int) (cs : List SV) (tr_h : TRs ts cs) (hn : n = ts.length) (hl : ts.length ≤ 1000000) (ha : aI = a) (hb : bI = b) (hm : mI = m) (hab : a + m ≤ b) (hbn : b + m ≤ ts.length) :
    Spec prog 39 [.lst 0 n, .int .i64 aI, .int .i64 bI, .int .i64 mI, cmpV] [.lst 41 1 cs] (fun r H => r = .tup [] ∧ ∃ us ds, SwQ ts us a b m ∧ TRs us ds ∧ H = [.lst 41 1 ds]) := by
  refine Spec_of_kX (D := fun i => if i = 3 then (24, [0,1013019,2000000]) else (0, [])) (ks := [0, 1, 2, 3, 10]) tok mixed (fn := f39) rfl rfl rfl (by kernel_rfl) (N := 38) rfl (rs := []) rfl (Nat.le_of_ble_eq_true rfl) fun A C Kp E ag L q hA hC hK hE hag hL hq => ?_
  cbv
  (try simp only [ncast] at *)
  rw [hL]
  refine ⟨fun kk s => ∃ (i : Int) (j : Nat) (us : List Tr) (ds : List SV), i = j ∧ j ≤ m ∧ SwQ ts us a b j ∧ TRs us ds ∧ kk = m - j ∧ s = ⟨[(0, .lst 0 n), (1, .int .i64 aI), (2, .int .i64 bI), (3, .int .i64 mI), (10, .int .i64 i)], [.lst 41 1 ds]⟩,
    ⟨m, ⟨[(0, .lst 0 n), (1, .int .i64 aI), (2, .int .i64 bI), (3, .int .i64 mI), (10, .int .i64 0)], [.lst 41 1 cs]⟩, ?_, 0, 0, ts, cs, rfl, by omega, SwQ_zero ts a b, tr_h, by omega, rfl⟩, ?_⟩
  · subst hA
    exact Sc [0] (by repeat' (first | exact trivial | exact fun _ => rfl | exact fun h => absurd h (by simp) | exact subC_ints rfl | exact subC_tr tr_h rfl | exact subC_trv tr_h rfl rfl | refine And.intro ?_ ?_ | rfl | (simp [subH_nil, hLts, hLt, renCk, renC, sg, Ck.cells, R_ints_ren, R_ints_hLts]; done)))
  rintro kk _ ⟨i, j, us, ds, hi, hj, hQ, tr_u, hkk, rfl⟩
  have hul := hQ.1
  cbv
  (try simp only [ncast] at *)
  refine ifB_intro (fun h => ?_) (fun h => ?_)
  · have hlt := h
    (try simp only [wA hA] at hlt)
    (try rw [h]); clear h
    cbv
    (try simp only [ncast] at *)
    have e1 : A.bin .add .i64 aI i = ((a + j : Nat) : Int) := by rw [addA hA, wrap64 (by omega)]; omega
    have e2 : A.bin .add .i64 bI i = ((b + j : Nat) : Int) := by rw [addA hA, wrap64 (by omega)]; omega
    have e3 : A.bin .add .i64 i 1 = i + 1 := by rw [addA hA, wrap64 (by omega)]
    obtain ⟨aj, haj⟩ : ∃ x : Int, x = ((a + j : Nat) : Int) := ⟨_, rfl⟩
    obtain ⟨bj, hbj⟩ : ∃ x : Int, x = ((b + j : Nat) : Int) := ⟨_, rfl⟩
    rw [← haj] at e1
    rw [← hbj] at e2
    obtain ⟨x, hx⟩ : ∃ x, us[a + j]? = some x := ⟨us[a + j]'(by omega), List.getElem?_eq_getElem _⟩
    obtain ⟨y, hy⟩ : ∃ y, us[b + j]? = some y := ⟨us[b + j]'(by omega), List.getElem?_eq_getElem _⟩
    have hQ2 := SwQ_step hQ (by omega) (by omega) hx hy
    obtain ⟨vs, hvs⟩ : ∃ vs, vs = (us.set (a + j) y).set (b + j) x := ⟨_, rfl⟩
    rw [← hvs] at hQ2
    refine ⟨⟨[[0,1,2,3,4,5,6,7,8,9,10,11,12,13,14,15,16,17,18,19,20,21,22,23],[0,1,2,3,4,5,6,7,8,9,10,11,12,14,15,16,17,18,19,13,20,21,22,23]], by kernel_rfl, fun F hF => ?_⟩⟩
    have h3 : ∀ es, TRs vs es → F ⟨[(0, .lst 0 n), (1, .int .i64 aI), (2, .int .i64 bI), (3, .int .i64 mI), (10, .int .i64 i)], [.lst 41 1 es]⟩ := by
      intro es tr_e
      refine hF _ ?_
      clear hF
      cbv
      (try simp only [ncast] at *)
      simp only [e3]
      subst hag
      refine ⟨m - (j + 1), ⟨[(0, .lst 0 n), (1, .int .i64 aI), (2, .int .i64 bI), (3, .int .i64 mI), (10, .int .i64 (i + 1))], [.lst 41 1 es]⟩, by omega, ?_, i + 1, j + 1, vs, es, by omega, by omega, hQ2, tr_e, rfl, rfl⟩
      subst hA
      exact Sc [0] (by repeat' (first | exact trivial | exact fun _ => rfl | exact fun h => absurd h (by simp) | exact subC_ints rfl | exact subC_tr tr_e rfl | exact subC_trv tr_e rfl rfl | refine And.intro ?_ ?_ | rfl | (simp [subH_nil, hLts, hLt, renCk, renC, sg, Ck.cells, R_ints_ren, R_ints_hLts]; done)))
    clear hF
    cbv
    (try simp only [ncast] at *)
    simp only [e1, e2]
    refine ⟨?_, ?_, trivial⟩
    · refine tr_u.rd hA (by omega) (by omega) fun y2 c2 hg2 ht2 => ?_
      cbv
      (try simp only [ncast] at *)
      (try simp only [e1, e2])
      refine tr_u.rd hA (by omega) (by omega) fun y1 c1 hg1 ht1 => ?_
      cbv
      (try simp only [ncast] at *)
      (try simp only [e1, e2])
      refine tr_u.wr hA ht2 (by omega) (by omega) fun u1 d1 hu1 tr_1 => ?_
      cbv
      (try simp only [ncast] at *)
      (try simp only [e1, e2])
      have hul1 : u1.length = us.length := by rw [hu1, List.length_set]
      refine tr_1.wr hA ht1 (by omega) (by omega) fun u2 d2 hu2 tr_2 => ?_
      cbv
      (try simp only [ncast] at *)
      (try simp only [e1, e2])
      rw [show 0 + aj.toNat = a + j by omega] at hu1 hg1
      rw [show 0 + bj.toNat = b + j by omega] at hu2 hg2
      rw [hx] at hg1
      rw [hy] at hg2
      obtain rfl := Option.some.inj hg1
      obtain rfl := Option.some.inj hg2
      have he : u2 = vs := by rw [hu2, hu1, hvs]
      rw [he] at tr_2
      have h4 := h3 _ tr_2
      subst hA hag
      refine ⟨0, _, Nat.zero_lt_one, ?_, h4⟩
      exact Sc [0] (by repeat' (first | exact trivial | exact fun _ => rfl | exact fun h => absurd h (by simp) | exact subC_ints rfl | exact subC_tr tr_2 rfl | exact subC_trv tr_2 rfl rfl | refine And.intro ?_ ?_ | rfl | (simp [subH_nil, hLts, hLt, renCk, renC, sg, Ck.cells, R_ints_ren, R_ints_hLts]; done)))
    · have hin : A.inr bj n := by rw [inrA hA]; omega
      refine ⟨hin, ?_⟩
      refine tr_u.rd hA (by omega) (by omega) fun y1 c1 hg1 ht1 => ?_
      cbv
      (try simp only [ncast] at *)
      (try simp only [e1, e2])
      refine (tr_u.rd hA (i := bj) (n := n) (by omega) (by omega) fun y2 c2 hg2 ht2 => ?_).2
      cbv
      (try simp only [ncast] at *)
      (try simp only [e1, e2])
      refine tr_u.wr hA ht2 (by omega) (by omega) fun u1 d1 hu1 tr_1 => ?_
      cbv
      (try simp only [ncast] at *)
      (try simp only [e1, e2])
      have hul1 : u1.length = us.length := by rw [hu1, List.length_set]
      refine tr_1.wr hA ht1 (by omega) (by omega) fun u2 d2 hu2 tr_2 => ?_
      cbv
      (try simp only [ncast] at *)
      (try simp only [e1, e2])
      rw [show 0 + aj.toNat = a + j by omega] at hu1 hg1
      rw [show 0 + bj.toNat = b + j by omega] at hu2 hg2
      rw [hx] at hg1
      rw [hy] at hg2
      obtain rfl := Option.some.inj hg1
      obtain rfl := Option.some.inj hg2
      have he : u2 = vs := by rw [hu2, hu1, hvs]
      rw [he] at tr_2
      have h4 := h3 _ tr_2
      subst hA hag
      refine ⟨0, _, Nat.zero_lt_one, ?_, h4⟩
      exact Sc [0] (by repeat' (first | exact trivial | exact fun _ => rfl | exact fun h => absurd h (by simp) | exact subC_ints rfl | exact subC_tr tr_2 rfl | exact subC_trv tr_2 rfl rfl | refine And.intro ?_ ?_ | rfl | (simp [subH_nil, hLts, hLt, renCk, renC, sg, Ck.cells, R_ints_ren, R_ints_hLts]; done)))
  · have hge := h
    (try simp only [wA hA] at hge)
    (try rw [h]); clear h
    cbv
    (try simp only [ncast] at *)
    have hje : j = m := by omega
    subst hje
    subst hA hq
    exact ⟨rfl, us, ds, hQ, tr_u, rfl⟩
end Go.Sx

/- limit: sorting: rotations, insertion. -/
set_option maxRecDepth 100000
set_option maxHeartbeats 8000000
set_option linter.unusedVariables false
set_option linter.unusedSimpArgs false
namespace Go.Sx
open Go.Proofs.Try

section
variable {A : Ar} {C : CallT} {s : St} {κ : List Nat → SV → List Ck → Prop}
theorem call_swapRange (hC : C = CallX prog) {ts : List Tr} {hb n a b m : Nat} {aI bI mI : Int} {cs : List SV} (tr_h : TRs ts cs) (hn : n = ts.length) (hl : ts.length ≤ 1000000) (ha : aI = a) (hb' : bI = b) (hm : mI = m) (hab : a + m ≤ b) (hbn : b + m ≤ ts.length)
    (h4 : s.H[hb]? = some (.lst 41 1 cs)) (hk : ∀ us ds, SwQ ts us a b m → TRs us ds → κ [hb] (.tup []) (s.H.set hb (.lst 41 1 ds))) :
    C 39 [.lst hb n, .int .i64 aI, .int .i64 bI, .int .i64 mI, cmpV] s κ := by
  refine cal_of hC (s_swapRange ts n a b m aI bI mI cs tr_h hn hl ha hb' hm hab hbn) [(hb, 0, true)] ⟨by simp, trivial⟩ ⟨rfl, tr_h.hLts _, tr_h.zOks _, ?_, trivial⟩
    ⟨⟨(show 0 < 1 by omega), rfl, rfl⟩, ⟨trivial, trivial, rfl⟩, ⟨trivial, trivial, rfl⟩, ⟨trivial, trivial, rfl⟩, ⟨trivial, trivial, rfl⟩, trivial⟩ ?_
  · show _ = some (Ck.lst _ _ (cs.map _))
    rw [tr_h.ren]; exact h4
  rintro _ _ ⟨rfl, us, ds, hQ, tr_u, rfl⟩
  refine ⟨_, _, _, rfl, rfl, ?_, hk us ds hQ tr_u⟩
  simp only [backH, setAll, List.map_cons, List.map_nil, renCk, tr_u.ren, List.drop_succ_cons, List.drop_nil, List.append_nil, List.length_cons, List.length_nil]
end

theorem s_rotate (P X Y S : List Tr) (n a m b : Nat) (aI mI bI : Int) (cs : List SV) (tr_h : TRs (P ++ X ++ Y ++ S) cs) (hn : n = (P ++ X ++ Y ++ S).length) (hl : (P ++ X ++ Y ++ S).length ≤ 1000000) (ha : aI = a) (hm : mI = m) (hb : bI = b)
    (ha' : a = P.length) (hm' : m = a + X.length) (hb' : b = m + Y.length) (hX : 1 ≤ X.length) (hY : 1 ≤ Y.length) :
    Spec prog 38 [.lst 0 n, .int .i64 aI, .int .i64 mI, .int .i64 bI, cmpV] [.lst 41 1 cs] (fun r H => r = .tup [] ∧ ∃ ds, TRs (P ++ Y ++ X ++ S) ds ∧ H = [.lst 41 1 ds]) := by
  refine Spec_of_kX (D := fun i => (0, [])) (ks := [0, 1, 2, 3, 4, 10, 11]) tok mixed (fn := f38) rfl rfl rfl (by kernel_rfl) (N := 58) rfl (rs := []) rfl (Nat.le_of_ble_eq_true rfl) fun A C Kp E ag L q hA hC hK hE hag hL hq => ?_
  simp only [List.length_append] at hn hl
  have e1 : A.bin .sub .i64 mI aI = ((X.length : Nat) : Int) := by rw [subA' hA, wrap64 (by omega)]; omega
  have e2 : A.bin .sub .i64 bI mI = ((Y.length : Nat) : Int) := by rw [subA' hA, wrap64 (by omega)]; omega
  obtain ⟨xl, hxl⟩ : ∃ x : Int, x = ((X.length : Nat) : Int) := ⟨_, rfl⟩
  obtain ⟨yl, hyl⟩ : ∃ x : Int, x = ((Y.length : Nat) : Int) := ⟨_, rfl⟩
  rw [← hxl] at e1
  rw [← hyl] at e2
  obtain ⟨G, hG⟩ : ∃ G, G = P ++ Y ++ X ++ S := ⟨_, rfl⟩
  rw [← hG] at hq
  cbv
  (try simp only [ncast] at *)
  simp only [e1, e2]
  rw [hL]
  refine ⟨fun kk s => ∃ (i j : Int) (P X Y S : List Tr) (ds : List SV), i = X.length ∧ j = Y.length ∧ 1 ≤ X.length ∧ 1 ≤ Y.length ∧ P.length + X.length = m ∧ P.length + X.length + Y.length + S.length = n ∧ G = P ++ Y ++ X ++ S ∧ TRs (P ++ X ++ Y ++ S) ds ∧ kk = X.length + Y.length ∧
      s = ⟨[(0, .lst 0 n), (2, .int .i64 mI), (4, cmpV), (10, .int .i64 i), (11, .int .i64 j)], [.lst 41 1 ds]⟩,
    ⟨X.length + Y.length, ⟨[(0, .lst 0 n), (2, .int .i64 mI), (4, cmpV), (10, .int .i64 xl), (11, .int .i64 yl)], [.lst 41 1 cs]⟩, ?_, xl, yl, P, X, Y, S, cs, hxl, hyl, hX, hY, by omega, by omega, hG, tr_h, rfl, rfl⟩, ?_⟩
  · subst hA
    exact Sc [0] (by repeat' (first | exact trivial | exact fun _ => rfl | exact fun h => absurd h (by simp) | exact subC_ints rfl | exact subC_tr tr_h rfl | exact subC_trv tr_h rfl rfl | refine And.intro ?_ ?_ | rfl | (simp [subH_nil, hLts, hLt, renCk, renC, sg, Ck.cells, R_ints_ren, R_ints_hLts]; done)))
  have hn1 : n ≤ 1000000 := by omega
  clear hxl hyl hX hY e1 e2 tr_h ha' hm' hb' hG hn ha hb
  rintro kk _ ⟨i, j, P, X, Y, S, ds, hi, hj, hX, hY, hPX, hln, hG, tr_u, hkk, rfl⟩
  have e3 : A.bin .sub .i64 mI i = ((P.length : Nat) : Int) := by rw [subA' hA, wrap64 (by omega)]; omega
  obtain ⟨pl, hpl⟩ : ∃ x : Int, x = ((P.length : Nat) : Int) := ⟨_, rfl⟩
  rw [← hpl] at e3
  cbv
  (try simp only [ncast] at *)
  refine ifB_intro (fun h => ?_) (fun h => ?_)
  · have hne := h
    (try simp only [wA hA] at hne)
    (try rw [h]); clear h
    cbv
    (try simp only [ncast] at *)
    refine ifB_intro (fun h => ?_) (fun h => ?_)
    · have hgt := h
      (try simp only [wA hA] at hgt)
      (try rw [h]); clear h
      cbv
      (try simp only [ncast] at *)
      have e4 : A.bin .sub .i64 i j = i - j := by rw [subA' hA, wrap64 (by omega)]
      simp only [e3]
      have hsp : X = X.take Y.length ++ X.drop Y.length := (List.take_append_drop _ _).symm
      have ht1 : (X.take Y.length).length = Y.length := by rw [List.length_take]; omega
      have ht2 : (X.drop Y.length).length = X.length - Y.length := by rw [List.length_drop]
      generalize X.take Y.length = X1 at *
      generalize X.drop Y.length = X2 at *
      refine call_swapRange hC (a := P.length) (b := P.length + X1.length + X2.length) (m := X1.length) tr_u (by simp only [List.length_append]; omega) (by simp only [List.length_append]; omega) hpl (by omega) (by omega) (by omega) (by simp only [List.length_append]; omega) rfl fun us ds2 hQ tr_2 => ?_
      rw [hsp, ← List.append_assoc P] at hQ
      have hu := SwQ_all ht1.symm hQ
      rw [hu] at tr_2
      cbv
      (try simp only [ncast] at *)
      simp only [e4]
      subst hA hag
      refine ⟨X.length, ⟨[(0, .lst 0 n), (2, .int .i64 mI), (4, cmpV), (10, .int .i64 (i - j)), (11, .int .i64 j)], [.lst 41 1 ds2]⟩, by omega, ?_, i - j, j, P ++ Y, X2, X1, S, ds2, by omega, by omega, by omega, by omega, by simp only [List.length_append]; omega, by simp only [List.length_append]; omega, ?_, tr_2, by omega, rfl⟩
      · exact Sc [0] (by repeat' (first | exact trivial | exact fun _ => rfl | exact fun h => absurd h (by simp) | exact subC_ints rfl | exact subC_tr tr_2 rfl | exact subC_trv tr_2 rfl rfl | refine And.intro ?_ ?_ | rfl | (simp [subH_nil, hLts, hLt, renCk, renC, sg, Ck.cells, R_ints_ren, R_ints_hLts]; done)))
      · rw [hG, hsp]; simp only [List.append_assoc]
    · have hle := h
      (try simp only [wA hA] at hle)
      (try rw [h]); clear h
      cbv
      (try simp only [ncast] at *)
      have e4 : A.bin .sub .i64 j i = j - i := by rw [subA' hA, wrap64 (by omega)]
      have e5 : A.bin .sub .i64 (A.bin .add .i64 mI j) i = ((P.length + X.length + (Y.length - X.length) : Nat) : Int) := by
        rw [addA hA, subA' hA, wrap64 (n := mI + j) (by omega), wrap64 (by omega)]; omega
      obtain ⟨ql, hql⟩ : ∃ x : Int, x = ((P.length + X.length + (Y.length - X.length) : Nat) : Int) := ⟨_, rfl⟩
      rw [← hql] at e5
      simp only [e3, e5]
      have hsp : Y = Y.take (Y.length - X.length) ++ Y.drop (Y.length - X.length) := (List.take_append_drop _ _).symm
      have ht1 : (Y.take (Y.length - X.length)).length = Y.length - X.length := by rw [List.length_take]; omega
      have ht2 : (Y.drop (Y.length - X.length)).length = X.length := by rw [List.length_drop]; omega
      generalize Y.take (Y.length - X.length) = Y1 at *
      generalize Y.drop (Y.length - X.length) = Y2 at *
      refine call_swapRange hC (a := P.length) (b := P.length + X.length + Y1.length) (m := X.length) tr_u (by simp only [List.length_append]; omega) (by simp only [List.length_append]; omega) hpl (by omega) (by omega) (by omega) (by simp only [List.length_append]; omega) rfl fun us ds2 hQ tr_2 => ?_
      rw [hsp, ← List.append_assoc (P ++ X)] at hQ
      have hu := SwQ_all ht2 hQ
      rw [hu] at tr_2
      cbv
      (try simp only [ncast] at *)
      simp only [e4]
      subst hA hag
      refine ⟨Y.length, ⟨[(0, .lst 0 n), (2, .int .i64 mI), (4, cmpV), (10, .int .i64 i), (11, .int .i64 (j - i))], [.lst 41 1 ds2]⟩, by omega, ?_, i, j - i, P, Y2, Y1, X ++ S, ds2, by omega, by omega, by omega, by omega, by omega, by simp only [List.length_append]; omega, ?_, by rw [← List.append_assoc]; exact tr_2, by omega, rfl⟩
      · exact Sc [0] (by repeat' (first | exact trivial | exact fun _ => rfl | exact fun h => absurd h (by simp) | exact subC_ints rfl | exact subC_tr tr_2 rfl | exact subC_trv tr_2 rfl rfl | refine And.intro ?_ ?_ | rfl | (simp [subH_nil, hLts, hLt, renCk, renC, sg, Ck.cells, R_ints_ren, R_ints_hLts]; done)))
      · rw [hG, hsp]; simp only [List.append_assoc]
  · have heq := h
    (try simp only [wA hA] at heq)
    (try rw [h]); clear h
    cbv
    (try simp only [ncast] at *)
    simp only [e3]
    refine call_swapRange hC (a := P.length) (b := P.length + X.length + ([] : List Tr).length) (m := X.length) tr_u (by simp only [List.length_append]; omega) (by simp only [List.length_append]; omega) hpl (by simp only [List.length_nil]; omega) (by omega) (by omega) (by simp only [List.length_append, List.length_nil]; omega) rfl fun us ds2 hQ tr_2 => ?_
    have hxy : Y.length = X.length := by omega
    have hu := SwQ_all (P := P) (U := X) (V := []) (W := Y) (S := S) hxy (by rw [List.append_nil]; exact hQ)
    rw [List.append_nil, ← hG] at hu
    rw [hu] at tr_2
    cbv
    (try simp only [ncast] at *)
    subst hA hq
    exact ⟨rfl, ds2, tr_2, rfl⟩

/-- One stands ahead of another: by weight, then by symbol. -/
def Tlt (t u : Tr) : Prop := t.w < u.w ∨ (t.w = u.w ∧ t.s < u.s)
abbrev Srt (l : List Tr) : Prop := l.Pairwise Tlt
abbrev Asc (l : List Tr) : Prop := l.Pairwise fun t u => t.s < u.s
theorem Tlt.trans {a b c : Tr} (h : Tlt a b) (k : Tlt b c) : Tlt a c := by
  unfold Tlt at *; omega
theorem swap_adj {U V : List Tr} {x y : Tr} {k : Nat} (hk : k = U.length) : ((U ++ y :: x :: V).set (k + 1) y).set k x = U ++ x :: y :: V := by
  subst hk
  simp [List.set_append]
theorem at_0 {U V : List Tr} {x : Tr} {k : Nat} (hk : k = U.length) : (U ++ x :: V)[k]? = some x := by
  subst hk; simp
theorem at_1 {U V : List Tr} {x y : Tr} {k : Nat} (hk : k = U.length + 1) : (U ++ y :: x :: V)[k]? = some x := by
  subst hk; simp [List.getElem?_append_right]
/-- One more is put in its place. -/
theorem ins_srt {A B : List Tr} {x : Tr} (h : Srt (A ++ B)) (hs : ∀ t ∈ A ++ B, t.s < x.s) (hB : ∀ t ∈ B, x.w < t.w) (hA : A = [] ∨ ∃ A' y, A = A' ++ [y] ∧ y.w ≤ x.w) : Srt (A ++ x :: B) := by
  unfold Srt at h ⊢
  rw [List.pairwise_append] at h ⊢
  obtain ⟨h1, h2, h3⟩ := h
  have hAx : ∀ t ∈ A, Tlt t x := by
    rcases hA with rfl | ⟨A', y, rfl, hy⟩
    · simp
    · have hys : y.s < x.s := hs y (by simp)
      have hyx : Tlt y x := by unfold Tlt; omega
      intro t ht
      rcases List.mem_append.1 ht with ht | ht
      · exact (List.pairwise_append.1 h1).2.2 t ht y (by simp) |>.trans hyx
      · simp at ht; rw [ht]; exact hyx
  refine ⟨h1, List.pairwise_cons.2 ⟨fun t ht => .inl (hB t ht), h2⟩, fun t ht u hu => ?_⟩
  rcases List.mem_cons.1 hu with rfl | hu
  · exact hAx t ht
  · exact h3 t ht u hu
end Go.Sx

/- limit: sorting: insertion: the contract. -/
set_option maxRecDepth 100000
set_option maxHeartbeats 8000000
set_option linter.unusedVariables false
set_option linter.unusedSimpArgs false
namespace Go.Sx
open Go.Proofs.Try

theorem s_insertion (P X S : List Tr) (n a b : Nat) (aI bI : Int) (cs : List SV) (tr_h : TRs (P ++ X ++ S) cs) (hn : n = (P ++ X ++ S).length) (hl : (P ++ X ++ S).length ≤ 1000000) (ha : aI = a) (hb : bI = b)
    (ha' : a = P.length) (hb' : b = a + X.length) (hasc : Asc X) :
    Spec prog 36 [.lst 0 n, .int .i64 aI, .int .i64 bI, cmpV] [.lst 41 1 cs] (fun r H => r = .tup [] ∧ ∃ X' ds, X'.Perm X ∧ Srt X' ∧ TRs (P ++ X' ++ S) ds ∧ H = [.lst 41 1 ds]) := by
  refine Spec_of_kX (D := fun i => if i = 4 then (14, []) else if i = 6 then (18, [0,1009013,2000000]) else (0, [])) (ks := [0, 1, 2, 3, 8, 9]) tok mixed (fn := f36) rfl rfl rfl (by kernel_rfl) (N := 53) rfl (rs := []) rfl (Nat.le_of_ble_eq_true rfl) fun A C Kp E ag L q hA hC hK hE hag hL hq => ?_
  simp only [List.length_append] at hn hl
  have e1 : A.bin .add .i64 aI 1 = aI + 1 := by rw [addA hA, wrap64 (by omega)]
  cbv
  (try simp only [ncast] at *)
  simp only [e1]
  rw [hL]
  refine ⟨fun kk s => ∃ (i : Int) (k : Nat) (X1 : List Tr) (ds : List SV), i = (a : Int) + k ∧ 1 ≤ k ∧ (k ≤ X.length ∨ (X = [] ∧ k = 1)) ∧ X1.Perm (X.take k) ∧ Srt X1 ∧ TRs (P ++ X1 ++ X.drop k ++ S) ds ∧ kk = X.length + 1 - k ∧ s = ⟨[(0, .lst 0 n), (1, .int .i64 aI), (2, .int .i64 bI), (3, cmpV), (8, .int .i64 i)], [.lst 41 1 ds]⟩,
    ⟨X.length, ⟨[(0, .lst 0 n), (1, .int .i64 aI), (2, .int .i64 bI), (3, cmpV), (8, .int .i64 (aI + 1))], [.lst 41 1 cs]⟩, ?_, aI + 1, 1, X.take 1, cs, by omega, by omega, ?_, List.Perm.refl _, ?_, ?_, by omega, rfl⟩, ?_⟩
  · subst hA
    exact Sc [0] (by repeat' (first | exact trivial | exact fun _ => rfl | exact fun h => absurd h (by simp) | exact subC_ints rfl | exact subC_tr tr_h rfl | exact subC_trv tr_h rfl rfl | refine And.intro ?_ ?_ | rfl | (simp [subH_nil, hLts, hLt, renCk, renC, sg, Ck.cells, R_ints_ren, R_ints_hLts]; done)))
  · cases X with
    | nil => exact .inr ⟨rfl, rfl⟩
    | cons x r => left; simp
  · cases X with
    | nil => exact List.Pairwise.nil
    | cons x r => exact List.pairwise_singleton _ _
  · rw [List.append_assoc P, List.take_append_drop]; exact tr_h
  rintro kk _ ⟨i, k, X1, ds, hi, hk1, hkX, hp, hsr, tr_u, hkk, rfl⟩
  cbv
  (try simp only [ncast] at *)
  refine ifB_intro (fun h => ?_) (fun h => ?_)
  · have hlt := h
    (try simp only [wA hA] at hlt)
    (try rw [h]); clear h
    cbv
    (try simp only [ncast] at *)
    have hkl : k < X.length := by omega
    obtain ⟨x, R, hxR⟩ : ∃ x R, X.drop k = x :: R := by
      cases h : X.drop k with
      | nil => have := congrArg List.length h; rw [List.length_drop] at this; simp at this; omega
      | cons x R => exact ⟨x, R, rfl⟩
    have hR : R = X.drop (k + 1) := by
      have := congrArg (List.drop 1) hxR
      rw [List.drop_drop] at this
      simpa [Nat.add_comm] using this.symm
    have hX1l : X1.length = k := by rw [hp.length_eq, List.length_take]; omega
    have hXs : X.take (k + 1) = X.take k ++ [x] := by
      have h0 : X[k]? = some x := by
        have := congrArg (fun l => l[0]?) hxR
        simpa using this
      rw [List.take_add_one, h0]
      rfl
    have hlow : ∀ t ∈ X1, t.s < x.s := by
      intro t ht
      have h0 : Asc (X.take k ++ x :: R) := by rw [← hxR, List.take_append_drop]; exact hasc
      unfold Asc at h0
      rw [List.pairwise_append] at h0
      exact h0.2.2 t (hp.mem_iff.1 ht) x (List.mem_cons_self ..)
    rw [hxR] at tr_u
    have hRl : R.length = X.length - (k + 1) := by rw [hR, List.length_drop]
    refine ⟨fun k2 s => ∃ (jI : Int) (U B : List Tr) (ds : List SV), jI = (a : Int) + U.length ∧ U ++ B = X1 ∧ (∀ t ∈ B, x.w < t.w) ∧ TRs (P ++ U ++ x :: (B ++ R ++ S)) ds ∧ k2 = U.length ∧ s = ⟨[(0, .lst 0 n), (1, .int .i64 aI), (2, .int .i64 bI), (3, cmpV), (8, .int .i64 i), (9, .int .i64 jI)], [.lst 41 1 ds]⟩,
      ⟨X1.length, ⟨[(0, .lst 0 n), (1, .int .i64 aI), (2, .int .i64 bI), (3, cmpV), (8, .int .i64 i), (9, .int .i64 i)], [.lst 41 1 ds]⟩, ?_, i, X1, [], ds, by omega, List.append_nil _, by simp, by simpa using tr_u, rfl, rfl⟩, ?_⟩
    · subst hA
      exact Sc [0] (by repeat' (first | exact trivial | exact fun _ => rfl | exact fun h => absurd h (by simp) | exact subC_ints rfl | exact subC_tr tr_u rfl | exact subC_trv tr_u rfl rfl | refine And.intro ?_ ?_ | rfl | (simp [subH_nil, hLts, hLt, renCk, renC, sg, Ck.cells, R_ints_ren, R_ints_hLts]; done)))
    clear tr_u ds
    rintro k2 _ ⟨jI, U, B, ds, hj, hUB, hB, tr_u, hk2, rfl⟩
    have hUBl : U.length + B.length = k := by rw [← List.length_append, hUB]; exact hX1l
    have hall : (P ++ U ++ x :: (B ++ R ++ S)).length = n := by simp only [List.length_append, List.length_cons]; omega
    have e2 : A.bin .add .i64 i 1 = i + 1 := by rw [addA hA, wrap64 (by omega)]
    have e3 : A.bin .sub .i64 jI 1 = jI - 1 := by rw [subA' hA, wrap64 (by omega)]
    obtain ⟨jm, hjm⟩ : ∃ z, z = jI - 1 := ⟨_, rfl⟩
    rw [← hjm] at e3
    cbv
    (try simp only [ncast] at *)
    refine ifB_intro (fun h => ?_) (fun h => ?_)
    · have hgt := h
      (try simp only [wA hA] at hgt)
      (try rw [h]); clear h
      cbv
      (try simp only [ncast] at *)
      (try simp only [e3])
      have hUp : 0 < U.length := by omega
      obtain ⟨U', y, rfl⟩ : ∃ U' y, U = U' ++ [y] := ⟨U.dropLast, U.getLast (by intro h; rw [h] at hUp; simp at hUp), (List.dropLast_concat_getLast _).symm⟩
      have hU1 : (U' ++ [y]).length = U'.length + 1 := by simp
      have hts : P ++ (U' ++ [y]) ++ x :: (B ++ R ++ S) = (P ++ U') ++ y :: x :: (B ++ R ++ S) := by simp
      rw [hts] at tr_u
      have hlen2 : ((P ++ U') ++ y :: x :: (B ++ R ++ S)).length = n := by rw [← hts]; exact hall
      have hp1 : (P ++ U').length = P.length + U'.length := List.length_append
      have g0 : ((P ++ U') ++ y :: x :: (B ++ R ++ S))[P.length + U'.length]? = some y := at_0 hp1.symm
      have g1 : ((P ++ U') ++ y :: x :: (B ++ R ++ S))[P.length + U'.length + 1]? = some x := at_1 (by omega)
      have hz1 : 0 + jI.toNat = P.length + U'.length + 1 := by omega
      have hz0 : 0 + jm.toNat = P.length + U'.length := by omega
      refine tr_u.rd hA (by omega) (by omega) fun x1 c1 hx1 hc1 => ?_
      rw [hz1, g1] at hx1
      obtain rfl := Option.some.inj hx1
      cbv
      (try simp only [ncast] at *)
      (try simp only [e3])
      refine tr_u.rd hA (by omega) (by omega) fun y1 d1 hy1 hd1 => ?_
      rw [hz0, g0] at hy1
      obtain rfl := Option.some.inj hy1
      cbv
      (try simp only [ncast] at *)
      refine hk_callv hE hC rfl rfl ?_
      refine call_cmpN hC hc1 hd1 fun z hz => ?_
      cbv
      (try simp only [ncast] at *)
      (try simp only [e3])
      refine ifB_intro (fun h => ?_) (fun h => ?_)
      · have hc := h
        (try simp only [wA hA] at hc)
        (try rw [h]); clear h
        cbv
        (try simp only [ncast] at *)
        have hw : x.w < y.w := by
          rw [hz] at hc
          unfold cpI at hc
          split at hc
          · assumption
          · split at hc <;> omega
        obtain ⟨vs, hvs⟩ : ∃ vs, vs = (P ++ U') ++ x :: y :: (B ++ R ++ S) := ⟨_, rfl⟩
        have hsw := swap_adj (U := P ++ U') (V := B ++ R ++ S) (x := x) (y := y) (k := P.length + U'.length) hp1.symm
        rw [← hvs] at hsw
        refine ⟨⟨[[0,1,2,3,4,5,6,7,8,9,10,11,12,13,14,15,16,17],[0,1,2,3,4,5,6,7,8,10,11,12,13,9,14,15,16,17]], by kernel_rfl, fun F hF => ?_⟩⟩
        have h3 : ∀ es, TRs vs es → F ⟨[(0, .lst 0 n), (1, .int .i64 aI), (2, .int .i64 bI), (3, cmpV), (8, .int .i64 i), (9, .int .i64 jI)], [.lst 41 1 es]⟩ := by
          intro es tr_e
          refine hF _ ?_
          clear hF
          cbv
          (try simp only [ncast] at *)
          simp only [e3]
          subst hag
          refine ⟨U'.length, ⟨[(0, .lst 0 n), (1, .int .i64 aI), (2, .int .i64 bI), (3, cmpV), (8, .int .i64 i), (9, .int .i64 jm)], [.lst 41 1 es]⟩, by omega, ?_, jm, U', y :: B, es, by omega, by rw [← hUB]; simp, ?_, ?_, rfl, rfl⟩
          · subst hA
            exact Sc [0] (by repeat' (first | exact trivial | exact fun _ => rfl | exact fun h => absurd h (by simp) | exact subC_ints rfl | exact subC_tr tr_e rfl | exact subC_trv tr_e rfl rfl | refine And.intro ?_ ?_ | rfl | (simp [subH_nil, hLts, hLt, renCk, renC, sg, Ck.cells, R_ints_ren, R_ints_hLts]; done)))
          · intro t ht
            rcases List.mem_cons.1 ht with rfl | ht
            · exact hw
            · exact hB t ht
          · rw [hvs] at tr_e; simpa using tr_e
        clear hF
        cbv
        (try simp only [ncast] at *)
        (try simp only [e3])
        refine ⟨?_, ?_, trivial⟩
        · refine tr_u.rd hA (by omega) (by omega) fun y2 d2 hy2 hd2 => ?_
          rw [hz0, g0] at hy2
          obtain rfl := Option.some.inj hy2
          cbv
          (try simp only [ncast] at *)
          (try simp only [e3])
          refine tr_u.rd hA (by omega) (by omega) fun x2 c2 hx2 hc2 => ?_
          rw [hz1, g1] at hx2
          obtain rfl := Option.some.inj hx2
          cbv
          (try simp only [ncast] at *)
          (try simp only [e3])
          refine tr_u.wr hA hd2 (by omega) (by omega) fun u1 f1 hu1 tr_1 => ?_
          cbv
          (try simp only [ncast] at *)
          (try simp only [e3])
          have hul1 : u1.length = n := by rw [hu1, List.length_set]; exact hlen2
          refine tr_1.wr hA hc2 (by omega) (by omega) fun u2 f2 hu2 tr_2 => ?_
          cbv
          (try simp only [ncast] at *)
          (try simp only [e3])
          rw [hz1] at hu1
          rw [hz0] at hu2
          have he : u2 = vs := by rw [hu2, hu1]; exact hsw
          rw [he] at tr_2
          have h4 := h3 _ tr_2
          subst hA hag
          refine ⟨0, _, Nat.zero_lt_one, ?_, h4⟩
          exact Sc [0] (by repeat' (first | exact trivial | exact fun _ => rfl | exact fun h => absurd h (by simp) | exact subC_ints rfl | exact subC_tr tr_2 rfl | exact subC_trv tr_2 rfl rfl | refine And.intro ?_ ?_ | rfl | (simp [subH_nil, hLts, hLt, renCk, renC, sg, Ck.cells, R_ints_ren, R_ints_hLts]; done)))
        · have hin : A.inr jm n := by rw [inrA hA]; omega
          refine ⟨hin, ?_⟩
          refine tr_u.rd hA (by omega) (by omega) fun x2 c2 hx2 hc2 => ?_
          rw [hz1, g1] at hx2
          obtain rfl := Option.some.inj hx2
          cbv
          (try simp only [ncast] at *)
          (try simp only [e3])
          refine (tr_u.rd hA (i := jm) (n := n) (by omega) (by omega) fun y2 d2 hy2 hd2 => ?_).2
          rw [hz0, g0] at hy2
          obtain rfl := Option.some.inj hy2
          cbv
          (try simp only [ncast] at *)
          (try simp only [e3])
          refine tr_u.wr hA hd2 (by omega) (by omega) fun u1 f1 hu1 tr_1 => ?_
          cbv
          (try simp only [ncast] at *)
          (try simp only [e3])
          have hul1 : u1.length = n := by rw [hu1, List.length_set]; exact hlen2
          refine tr_1.wr hA hc2 (by omega) (by omega) fun u2 f2 hu2 tr_2 => ?_
          cbv
          (try simp only [ncast] at *)
          (try simp only [e3])
          rw [hz1] at hu1
          rw [hz0] at hu2
          have he : u2 = vs := by rw [hu2, hu1]; exact hsw
          rw [he] at tr_2
          have h4 := h3 _ tr_2
          subst hA hag
          refine ⟨0, _, Nat.zero_lt_one, ?_, h4⟩
          exact Sc [0] (by repeat' (first | exact trivial | exact fun _ => rfl | exact fun h => absurd h (by simp) | exact subC_ints rfl | exact subC_tr tr_2 rfl | exact subC_trv tr_2 rfl rfl | refine And.intro ?_ ?_ | rfl | (simp [subH_nil, hLts, hLt, renCk, renC, sg, Ck.cells, R_ints_ren, R_ints_hLts]; done)))
      · have hc := h
        (try simp only [wA hA] at hc)
        (try rw [h]); clear h
        cbv
        (try simp only [ncast] at *)
        have hw : y.w ≤ x.w := by
          rw [hz] at hc
          unfold cpI at hc
          split at hc
          · omega
          · omega
        rw [← hts] at tr_u
        have hfin := ins_srt (A := (U' ++ [y])) (B := B) (x := x) (by rw [hUB]; exact hsr) (fun t ht => hlow t (by rw [← hUB]; exact ht)) hB (.inr ⟨U', y, rfl, hw⟩)
        have hperm : ((U' ++ [y]) ++ x :: B).Perm (X.take (k + 1)) := by
          rw [hXs]
          refine List.perm_middle.trans ((List.Perm.cons x (List.Perm.of_eq hUB)).trans ?_)
          exact (List.Perm.cons x hp).trans (List.perm_append_singleton x _).symm
        (try simp only [e2])
        have tr_v : TRs (P ++ ((U' ++ [y]) ++ x :: B) ++ X.drop (k + 1) ++ S) ds := by rw [← hR]; simpa using tr_u
        subst hA hag
        refine ⟨X.length - k, ⟨[(0, .lst 0 n), (1, .int .i64 aI), (2, .int .i64 bI), (3, cmpV), (8, .int .i64 (i + 1))], [.lst 41 1 ds]⟩, by omega, ?_, i + 1, k + 1, (U' ++ [y]) ++ x :: B, ds, by omega, by omega, .inl (by omega), hperm, hfin, tr_v, by omega, rfl⟩
        exact Sc [0] (by repeat' (first | exact trivial | exact fun _ => rfl | exact fun h => absurd h (by simp) | exact subC_ints rfl | exact subC_tr tr_u rfl | exact subC_trv tr_u rfl rfl | refine And.intro ?_ ?_ | rfl | (simp [subH_nil, hLts, hLt, renCk, renC, sg, Ck.cells, R_ints_ren, R_ints_hLts]; done)))
    · have hgt := h
      (try simp only [wA hA] at hgt)
      (try rw [h]); clear h
      cbv
      (try simp only [ncast] at *)
      have hU0 : U = [] := List.eq_nil_of_length_eq_zero (by omega)
      have hfin := ins_srt (A := U) (B := B) (x := x) (by rw [hUB]; exact hsr) (fun t ht => hlow t (by rw [← hUB]; exact ht)) hB (.inl hU0)
      have hperm : (U ++ x :: B).Perm (X.take (k + 1)) := by
        rw [hXs]
        refine List.perm_middle.trans ((List.Perm.cons x (List.Perm.of_eq hUB)).trans ?_)
        exact (List.Perm.cons x hp).trans (List.perm_append_singleton x _).symm
      (try simp only [e2])
      have tr_v : TRs (P ++ (U ++ x :: B) ++ X.drop (k + 1) ++ S) ds := by rw [← hR]; simpa using tr_u
      subst hA hag
      refine ⟨X.length - k, ⟨[(0, .lst 0 n), (1, .int .i64 aI), (2, .int .i64 bI), (3, cmpV), (8, .int .i64 (i + 1))], [.lst 41 1 ds]⟩, by omega, ?_, i + 1, k + 1, U ++ x :: B, ds, by omega, by omega, .inl (by omega), hperm, hfin, tr_v, by omega, rfl⟩
      exact Sc [0] (by repeat' (first | exact trivial | exact fun _ => rfl | exact fun h => absurd h (by simp) | exact subC_ints rfl | exact subC_tr tr_u rfl | exact subC_trv tr_u rfl rfl | refine And.intro ?_ ?_ | rfl | (simp [subH_nil, hLts, hLt, renCk, renC, sg, Ck.cells, R_ints_ren, R_ints_hLts]; done)))
  · have hge := h
    (try simp only [wA hA] at hge)
    (try rw [h]); clear h
    cbv
    (try simp only [ncast] at *)
    have hkl : X.take k = X := List.take_of_length_le (by omega)
    have hdl : X.drop k = [] := List.drop_eq_nil_of_le (by omega)
    rw [hkl] at hp
    rw [hdl, List.append_nil] at tr_u
    subst hA hq
    exact ⟨rfl, X1, ds, hp, hsr, tr_u, rfl⟩
end Go.Sx

/- limit: sorting: what a merge by search and rotation comes to: plain laws. -/
set_option maxRecDepth 100000
set_option maxHeartbeats 4000000
set_option linter.unusedVariables false
set_option linter.unusedSimpArgs false
namespace Go.Sx
open Go.Proofs.Try

theorem swap_adj' {U V : List Tr} {x y : Tr} {k : Nat} (hk : k = U.length) : ((U ++ x :: y :: V).set k y).set (k + 1) x = U ++ y :: x :: V := by
  subst hk
  simp [List.set_append]
theorem srt_get {l : List Tr} (h : Srt l) {i j : Nat} {t u : Tr} (hij : i < j) (hi : l[i]? = some t) (hj : l[j]? = some u) : Tlt t u := by
  obtain ⟨h1, rfl⟩ := List.getElem?_eq_some_iff.1 hi
  obtain ⟨h2, rfl⟩ := List.getElem?_eq_some_iff.1 hj
  exact List.pairwise_iff_getElem.1 h i j h1 h2 hij
theorem srt_w {l : List Tr} (h : Srt l) {i j : Nat} {t u : Tr} (hij : i ≤ j) (hi : l[i]? = some t) (hj : l[j]? = some u) : t.w ≤ u.w := by
  rcases Nat.lt_or_ge i j with h1 | h1
  · have := srt_get h h1 hi hj
    unfold Tlt at this; omega
  · obtain rfl : i = j := by omega
    rw [hi] at hj
    obtain rfl := Option.some.inj hj
    omega
theorem mem_at {l : List Tr} {t : Tr} (h : t ∈ l) : ∃ i : Nat, l[i]? = some t := by
  obtain ⟨i, hi, rfl⟩ := List.getElem_of_mem h
  exact ⟨i, by simp [hi]⟩

/-- A search: of all ahead of p it holds, of none from q on. -/
def Sch (p q r : Nat) (f : Nat → Prop) : Prop := (∀ c, c < p → f c) ∧ (∀ c, q ≤ c → c < r → ¬ f c)
theorem Sch.up {p q r h : Nat} {f : Nat → Prop} (hs : Sch p q r f) (hm : ∀ c d, c ≤ d → d < r → f d → f c) (hr : h < r) (hf : f h) : Sch (h + 1) q r f :=
  ⟨fun c hc => hm c h (by omega) hr hf, hs.2⟩
theorem Sch.dn {p q r h : Nat} {f : Nat → Prop} (hs : Sch p q r f) (hm : ∀ c d, c ≤ d → d < r → f d → f c) (hf : ¬ f h) : Sch p h r f :=
  ⟨hs.1, fun c hc hr hfc => hf (hm h c hc hr hfc)⟩

/-- One ahead of a row is put into it. -/
theorem one_left {x : Tr} {R : List Tr} {p : Nat} (hR : Srt R) (hs : ∀ u ∈ R, x.s < u.s) (hp : p ≤ R.length) (h : Sch p p R.length fun c => ∃ t, R[c]? = some t ∧ t.w < x.w) : Srt (R.take p ++ x :: R.drop p) := by
  have h0 : Srt (R.take p ++ R.drop p) := by rw [List.take_append_drop]; exact hR
  unfold Srt at h0 ⊢
  rw [List.pairwise_append] at h0 ⊢
  obtain ⟨h1, h2, h3⟩ := h0
  refine ⟨h1, List.pairwise_cons.2 ⟨fun u hu => ?_, h2⟩, fun t ht u hu => ?_⟩
  · obtain ⟨i, hi⟩ := mem_at hu
    rw [List.getElem?_drop] at hi
    have h4 := h.2 (p + i) (by omega) (List.getElem?_eq_some_iff.1 hi).1
    have h5 : ¬ u.w < x.w := fun hc => h4 ⟨u, hi, hc⟩
    have h6 := hs u (List.mem_of_getElem? hi)
    unfold Tlt; omega
  · rcases List.mem_cons.1 hu with rfl | hu
    · obtain ⟨i, hi⟩ := mem_at ht
      rw [List.getElem?_take] at hi
      split at hi
      · rename_i hip
        obtain ⟨t', h4, h5⟩ := h.1 i hip
        rw [hi] at h4
        obtain rfl := Option.some.inj h4
        exact .inl h5
      · cases hi
    · exact h3 t ht u hu
/-- One behind a row is put into it. -/
theorem one_right {x : Tr} {L : List Tr} {p : Nat} (hL : Srt L) (hs : ∀ t ∈ L, t.s < x.s) (hp : p ≤ L.length) (h : Sch p p L.length fun c => ∃ t, L[c]? = some t ∧ t.w ≤ x.w) : Srt (L.take p ++ x :: L.drop p) := by
  have h0 : Srt (L.take p ++ L.drop p) := by rw [List.take_append_drop]; exact hL
  unfold Srt at h0 ⊢
  rw [List.pairwise_append] at h0 ⊢
  obtain ⟨h1, h2, h3⟩ := h0
  refine ⟨h1, List.pairwise_cons.2 ⟨fun u hu => ?_, h2⟩, fun t ht u hu => ?_⟩
  · obtain ⟨i, hi⟩ := mem_at hu
    rw [List.getElem?_drop] at hi
    have h4 := h.2 (p + i) (by omega) (List.getElem?_eq_some_iff.1 hi).1
    have h5 : ¬ u.w ≤ x.w := fun hc => h4 ⟨u, hi, hc⟩
    unfold Tlt; omega
  · rcases List.mem_cons.1 hu with rfl | hu
    · obtain ⟨i, hi⟩ := mem_at ht
      rw [List.getElem?_take] at hi
      split at hi
      · rename_i hip
        obtain ⟨t', h4, h5⟩ := h.1 i hip
        rw [hi] at h4
        obtain rfl := Option.some.inj h4
        have := hs t (List.mem_of_getElem? hi)
        unfold Tlt; omega
      · cases hi
    · exact h3 t ht u hu
theorem perm_mid {A B : List Tr} {x : Tr} : (A ++ x :: B).Perm (x :: (A ++ B)) := List.perm_middle

/-- What the search of a merge asks of place c: the left one is not behind the right one that stands over against it. -/
def Opp (L R : List Tr) (g c : Nat) : Prop := ∃ t u, L[c]? = some t ∧ R[g - 1 - c]? = some u ∧ t.w ≤ u.w
theorem Opp.mono {L R : List Tr} (hL : Srt L) (hR : Srt R) {g r s0 : Nat} (hr : r ≤ g) (hr2 : r ≤ L.length) (hs : g ≤ s0 + R.length) {c d : Nat} (hc0 : s0 ≤ c) (hcd : c ≤ d) (hd : d < r) (h : Opp L R g d) : Opp L R g c := by
  obtain ⟨t, u, h1, h2, h3⟩ := h
  obtain ⟨t', ht⟩ : ∃ t, L[c]? = some t := ⟨L[c]'(by omega), List.getElem?_eq_getElem _⟩
  obtain ⟨u', hu⟩ : ∃ t, R[g - 1 - c]? = some t := ⟨R[g - 1 - c]'(by omega), List.getElem?_eq_getElem _⟩
  have := srt_w hL hcd ht h1
  have := srt_w hR (show g - 1 - d ≤ g - 1 - c by omega) h2 hu
  exact ⟨t', u', ht, hu, by omega⟩
/-- Where the search ends: the lesser half, the greater one. -/
theorem halves {L R : List Tr} (hL : Srt L) (hR : Srt R) (hLR : ∀ t ∈ L, ∀ u ∈ R, t.s < u.s) {g st e s0 r0 : Nat} (he : e = g - st) (hst : st ≤ g) (hs0 : s0 ≤ st) (hr0 : st ≤ r0) (hrg : r0 ≤ g) (hrl : r0 ≤ L.length) (hsr : g ≤ s0 + R.length)
    (hlo : s0 = 0 ∨ g = s0 + R.length) (hhi : r0 = g ∨ r0 = L.length)
    (h1 : ∀ c, s0 ≤ c → c < st → Opp L R g c) (h2 : ∀ c, st ≤ c → c < r0 → ¬ Opp L R g c) :
    (∀ t ∈ L.take st, ∀ u ∈ R.drop e, Tlt t u) ∧ (∀ t ∈ R.take e, ∀ u ∈ L.drop st, Tlt t u) := by
  constructor
  · intro t ht u hu
    obtain ⟨i, hi⟩ := mem_at ht
    obtain ⟨j, hj⟩ := mem_at hu
    rw [List.getElem?_drop] at hj
    rw [List.getElem?_take] at hi
    split at hi
    · rename_i hist
      have hjl := (List.getElem?_eq_some_iff.1 hj).1
      have hs := hLR t (List.mem_of_getElem? hi) u (List.mem_of_getElem? hj)
      rcases Nat.lt_or_ge s0 st with hc | hc
      · obtain ⟨x, y, k1, k2, k3⟩ := h1 (st - 1) (by omega) (by omega)
        have := srt_w hL (show i ≤ st - 1 by omega) hi k1
        have := srt_w hR (show g - 1 - (st - 1) ≤ e + j by omega) k2 hj
        unfold Tlt; omega
      · omega
    · cases hi
  · intro t ht u hu
    obtain ⟨i, hi⟩ := mem_at ht
    obtain ⟨j, hj⟩ := mem_at hu
    rw [List.getElem?_drop] at hj
    rw [List.getElem?_take] at hi
    split at hi
    · rename_i hie
      have hjl := (List.getElem?_eq_some_iff.1 hj).1
      rcases Nat.lt_or_ge st r0 with hc | hc
      · obtain ⟨x, hx⟩ : ∃ t, L[st]? = some t := ⟨L[st]'(by omega), List.getElem?_eq_getElem _⟩
        obtain ⟨y, hy⟩ : ∃ t, R[g - 1 - st]? = some t := ⟨R[g - 1 - st]'(by omega), List.getElem?_eq_getElem _⟩
        have h3 : ¬ x.w ≤ y.w := fun h => h2 st (by omega) hc ⟨x, y, hx, hy, h⟩
        have := srt_w hL (show st ≤ st + j by omega) hx hj
        have := srt_w hR (show i ≤ g - 1 - st by omega) hi hy
        exact .inl (by omega)
      · omega
    · cases hi
/-- The two halves, each in order, are in order. -/
theorem halves_srt {A B C D M1 M2 : List Tr} (h1 : M1.Perm (A ++ C)) (h2 : M2.Perm (B ++ D)) (s1 : Srt M1) (s2 : Srt M2) (hL : Srt (A ++ B)) (hR : Srt (C ++ D)) (hAD : ∀ t ∈ A, ∀ u ∈ D, Tlt t u) (hCB : ∀ t ∈ C, ∀ u ∈ B, Tlt t u) : Srt (M1 ++ M2) := by
  unfold Srt at *
  rw [List.pairwise_append] at hL hR ⊢
  refine ⟨s1, s2, fun t ht u hu => ?_⟩
  have ht := h1.mem_iff.1 ht
  have hu := h2.mem_iff.1 hu
  rcases List.mem_append.1 ht with ht | ht <;> rcases List.mem_append.1 hu with hu | hu
  · exact hL.2.2 t ht u hu
  · exact hAD t ht u hu
  · exact hCB t ht u hu
  · exact hR.2.2 t ht u hu
theorem halves_perm {A B C D M1 M2 : List Tr} (h1 : M1.Perm (A ++ C)) (h2 : M2.Perm (B ++ D)) : (M1 ++ M2).Perm (A ++ B ++ (C ++ D)) := by
  refine (h1.append h2).trans ?_
  simp only [List.append_assoc]
  refine List.Perm.append_left A ?_
  rw [← List.append_assoc, ← List.append_assoc]
  exact (List.perm_append_comm.append_right D)
end Go.Sx

/- limit: sorting: a merge by search and rotation: the contract. -/
set_option maxRecDepth 100000
set_option maxHeartbeats 16000000
set_option linter.unusedVariables false
set_option linter.unusedSimpArgs false
namespace Go.Sx
open Go.Proofs.Try

section
variable {A : Ar} {C : CallT} {s : St} {κ : List Nat → SV → List Ck → Prop}
theorem call_rotate (hC : C = CallX prog) {P X Y S : List Tr} {hb n a m b : Nat} {aI mI bI : Int} {cs : List SV} (tr_h : TRs (P ++ X ++ Y ++ S) cs) (hn : n = (P ++ X ++ Y ++ S).length) (hl : (P ++ X ++ Y ++ S).length ≤ 1000000) (ha : aI = a) (hm : mI = m) (hb1 : bI = b)
    (ha' : a = P.length) (hm' : m = a + X.length) (hb' : b = m + Y.length) (hX : 1 ≤ X.length) (hY : 1 ≤ Y.length)
    (h4 : s.H[hb]? = some (.lst 41 1 cs)) (hk : ∀ ds, TRs (P ++ Y ++ X ++ S) ds → κ [hb] (.tup []) (s.H.set hb (.lst 41 1 ds))) :
    C 38 [.lst hb n, .int .i64 aI, .int .i64 mI, .int .i64 bI, cmpV] s κ := by
  refine cal_of hC (s_rotate P X Y S n a m b aI mI bI cs tr_h hn hl ha hm hb1 ha' hm' hb' hX hY) [(hb, 0, true)] ⟨by simp, trivial⟩ ⟨rfl, tr_h.hLts _, tr_h.zOks _, ?_, trivial⟩
    ⟨⟨(show 0 < 1 by omega), rfl, rfl⟩, ⟨trivial, trivial, rfl⟩, ⟨trivial, trivial, rfl⟩, ⟨trivial, trivial, rfl⟩, ⟨trivial, trivial, rfl⟩, trivial⟩ ?_
  · show _ = some (Ck.lst _ _ (cs.map _))
    rw [tr_h.ren]; exact h4
  rintro _ _ ⟨rfl, ds, tr_u, rfl⟩
  refine ⟨_, _, _, rfl, rfl, ?_, hk ds tr_u⟩
  simp only [backH, setAll, List.map_cons, List.map_nil, renCk, tr_u.ren, List.drop_succ_cons, List.drop_nil, List.append_nil, List.length_cons, List.length_nil]
end

def SymSpec (K : Nat) : Prop := ∀ (P L R S : List Tr) (n a m b : Nat) (aI mI bI : Int) (cs : List SV), L.length + R.length ≤ K → TRs (P ++ L ++ R ++ S) cs → n = (P ++ L ++ R ++ S).length → (P ++ L ++ R ++ S).length ≤ 1000000 → aI = a → mI = m → bI = b →
  a = P.length → m = a + L.length → b = m + R.length → 1 ≤ L.length → 1 ≤ R.length → Srt L → Srt R → (∀ t ∈ L, ∀ u ∈ R, t.s < u.s) →
  Spec prog 37 [.lst 0 n, .int .i64 aI, .int .i64 mI, .int .i64 bI, cmpV] [.lst 41 1 cs] (fun r H => r = .tup [] ∧ ∃ M ds, M.Perm (L ++ R) ∧ Srt M ∧ TRs (P ++ M ++ S) ds ∧ H = [.lst 41 1 ds])

section
variable {A : Ar} {C : CallT} {s : St} {κ : List Nat → SV → List Ck → Prop}
theorem call_sym (hC : C = CallX prog) {K : Nat} (ih : SymSpec K) {P L R S : List Tr} {hb n a m b : Nat} {aI mI bI : Int} {cs : List SV} (hK : L.length + R.length ≤ K) (tr_h : TRs (P ++ L ++ R ++ S) cs) (hn : n = (P ++ L ++ R ++ S).length) (hl : (P ++ L ++ R ++ S).length ≤ 1000000) (ha : aI = a) (hm : mI = m) (hb1 : bI = b)
    (ha' : a = P.length) (hm' : m = a + L.length) (hb' : b = m + R.length) (hX : 1 ≤ L.length) (hY : 1 ≤ R.length) (hL : Srt L) (hR : Srt R) (hLR : ∀ t ∈ L, ∀ u ∈ R, t.s < u.s)
    (h4 : s.H[hb]? = some (.lst 41 1 cs)) (hk : ∀ M ds, M.Perm (L ++ R) → Srt M → TRs (P ++ M ++ S) ds → κ [hb] (.tup []) (s.H.set hb (.lst 41 1 ds))) :
    C 37 [.lst hb n, .int .i64 aI, .int .i64 mI, .int .i64 bI, cmpV] s κ := by
  refine cal_of hC (ih P L R S n a m b aI mI bI cs hK tr_h hn hl ha hm hb1 ha' hm' hb' hX hY hL hR hLR) [(hb, 0, true)] ⟨by simp, trivial⟩ ⟨rfl, tr_h.hLts _, tr_h.zOks _, ?_, trivial⟩
    ⟨⟨(show 0 < 1 by omega), rfl, rfl⟩, ⟨trivial, trivial, rfl⟩, ⟨trivial, trivial, rfl⟩, ⟨trivial, trivial, rfl⟩, ⟨trivial, trivial, rfl⟩, trivial⟩ ?_
  · show _ = some (Ck.lst _ _ (cs.map _))
    rw [tr_h.ren]; exact h4
  rintro _ _ ⟨rfl, M, ds, hM, hS, tr_u, rfl⟩
  refine ⟨_, _, _, rfl, rfl, ?_, hk M ds hM hS tr_u⟩
  simp only [backH, setAll, List.map_cons, List.map_nil, renCk, tr_u.ren, List.drop_succ_cons, List.drop_nil, List.append_nil, List.length_cons, List.length_nil]
end

theorem half64 {A : Ar} (hA : A = R) {z : Int} (h0 : 0 ≤ z) (h1 : z ≤ 1000000000000) : A.wrap .i64 (A.bin .shr .u64 (A.wrap .u64 z) 1) = z / 2 := by
  have e1 : A.wrap .u64 z = z := by rw [wrapA hA, Go.IntKind.wrap_u64]; omega
  have e2 : A.bin .shr .u64 z 1 = z / 2 := by
    rw [shrA hA]
    show z.fdiv (2 ^ (min (1 : Int).toNat 64)) = _
    rw [show ((2 : Int) ^ (min (1 : Int).toNat 64)) = 2 from rfl, Int.fdiv_eq_ediv_of_nonneg _ (by omega)]
  rw [e1, e2, wrapA hA, wrap64 (by omega)]

theorem at_P1 {P L R S : List Tr} {c : Nat} (h : c < L.length) : (P ++ L ++ R ++ S)[P.length + c]? = L[c]? := by
  rw [List.append_assoc, List.append_assoc, List.getElem?_append_right (by omega), List.getElem?_append_left (by omega)]
  congr 1; omega
theorem at_P2 {P L R S : List Tr} {c : Nat} (h : c < R.length) : (P ++ L ++ R ++ S)[P.length + L.length + c]? = R[c]? := by
  rw [List.append_assoc, List.getElem?_append_right (by simp), List.getElem?_append_left (by simp; omega)]
  congr 1; simp
theorem cpI_neg {x y : Int} : cpI x y < 0 ↔ x < y := by
  unfold cpI
  split
  · omega
  · split <;> omega

theorem cpI_nn {x y : Int} : 0 ≤ cpI x y ↔ ¬ x < y := by
  have := @cpI_neg x y
  omega

def symKs : List Nat := [0, 1, 2, 3, 4, 10, 11, 12, 13, 14, 15, 16, 17, 18, 19, 20, 21, 22, 23, 24]
def symD : Nat → Nat × List Nat := fun i => if i = 5 then (9, []) else if i = 11 then (18, [0, 1009013, 2000000]) else if i = 17 then (9, []) else if i = 23 then (18, [0, 1009013, 2000000]) else if i = 35 then (11, []) else (0, [])
/-- A merge's code behind its first j parts. -/
abbrev SymP (A : Ar) (C : CallT) (Kp : HkP) (E : HkE) (ag : AgT) (L : LpT) (j : Nat) (s : St) (fi : St → Prop) : Prop := xPrt A C Kp E ag L tt 1 220 f37 symKs symD j s fi
/-- Its end. -/
abbrev SymF (P X Y S : List Tr) : St → Prop := FinS 1 tt [] fun r H => r = .tup [] ∧ ∃ M ds, M.Perm (X ++ Y) ∧ Srt M ∧ TRs (P ++ M ++ S) ds ∧ H = [.lst 41 1 ds]
theorem SymF_of {P X Y S M : List Tr} {t : List (Nat × SV)} {ds : List SV} (hM : M.Perm (X ++ Y)) (hS : Srt M) (h : TRs (P ++ M ++ S) ds) : SymF P X Y S ⟨t, [.lst 41 1 ds]⟩ :=
  ⟨_, Sub.refl _ _, rfl, M, ds, hM, hS, h, rfl⟩
structure SymEnv (A : Ar) (C : CallT) (Kp : HkP) (E : HkE) (ag : AgT) (L : LpT) : Prop where
  hA : A = R
  hC : C = CallX prog
  hE : E = HookE prog
  hag : ag = again
  hL : L = Loops

/-- The greater halves. -/
theorem p_sym11 (K : Nat) (ih : SymSpec K) {A : Ar} {C : CallT} {Kp : HkP} {E : HkE} {ag : AgT} {L : LpT} (he : SymEnv A C Kp E ag L) (P M1 A1 B1 C1 D1 S : List Tr) (n m b g e : Nat) (v1 v2 midI eI bI : Int) (cs : List SV) (fi : St → Prop)
    (hf : ∀ s, SymF P (A1 ++ B1) (C1 ++ D1) S s → fi s) (tr_h : TRs (P ++ M1 ++ B1 ++ D1 ++ S) cs) (hn : n = (P ++ M1 ++ B1 ++ D1 ++ S).length) (hl : n ≤ 1000000) (hmid : midI = ((P ++ M1).length : Nat)) (heb : eI = ((P ++ M1).length + B1.length : Nat)) (hb : bI = ((P ++ M1).length + B1.length + D1.length : Nat))
    (hM1 : M1.Perm (A1 ++ C1)) (hS1 : Srt M1) (hK : B1.length + D1.length ≤ K) (hL : Srt (A1 ++ B1)) (hR : Srt (C1 ++ D1)) (hLR : ∀ t ∈ A1 ++ B1, ∀ u ∈ C1 ++ D1, t.s < u.s) (hAD : ∀ t ∈ A1, ∀ u ∈ D1, Tlt t u) (hCB : ∀ t ∈ C1, ∀ u ∈ B1, Tlt t u)
    (w1 w2 w19 w20 w21 w22 w23 : SV) : SymP A C Kp E ag L 11 ⟨[(0, .lst 0 n), (1, w1), (2, w2), (3, .int .i64 bI), (4, cmpV), (10, .undef), (11, .undef), (12, .undef), (13, .undef), (14, .undef), (15, .undef), (16, .undef), (17, .undef), (18, .int .i64 midI), (19, w19), (20, w20), (21, w21), (22, w22), (23, w23), (24, .int .i64 eI)], [.lst 41 1 cs]⟩ fi := by
  obtain ⟨hA, hC, hE, hag, hL0⟩ := he
  refine xPrt_end ?_
  have lT : ∀ {x y : Int}, x < y → A.cmp .lss x y = true := fun h => by rw [lssA hA]; exact decide_eq_true h
  have lF : ∀ {x y : Int}, ¬ x < y → A.cmp .lss x y = false := fun h => by rw [lssA hA]; exact decide_eq_false h
  simp only [List.length_append] at hn hmid heb hb
  have skip : (B1 = [] ∨ D1 = []) → fi ⟨[], [.lst 41 1 cs]⟩ ∧ ∀ t, fi ⟨t, [.lst 41 1 cs]⟩ := by
    intro h
    have h2 : Srt (B1 ++ D1) := by
      rcases h with h | h <;> subst h
      · exact (List.pairwise_append.1 hR).2.1
      · rw [List.append_nil]; exact (List.pairwise_append.1 hL).2.1
    have : ∀ t, fi ⟨t, [.lst 41 1 cs]⟩ := fun t => hf _ (SymF_of (M := M1 ++ (B1 ++ D1)) (halves_perm hM1 (List.Perm.refl _)) (halves_srt hM1 (List.Perm.refl _) hS1 h2 hL hR hAD hCB) (by simpa using tr_h))
    exact ⟨this _, this⟩
  cbv
  (try simp only [ncast] at *)
  by_cases hB : B1 = []
  · have h0 : B1.length = 0 := by rw [hB]; rfl
    refine ifF (by exact lF (by omega)) fun h => ?_
    (try rw [h]); clear h
    cbv
    exact (skip (.inl hB)).2 _
  · have h0 : 0 < B1.length := List.length_pos_iff.2 hB
    refine ifT (by exact lT (by omega)) fun h => ?_
    (try rw [h]); clear h
    cbv
    (try simp only [ncast] at *)
    by_cases hD : D1 = []
    · have h1 : D1.length = 0 := by rw [hD]; rfl
      refine ifF (by exact lF (by omega)) fun h => ?_
      (try rw [h]); clear h
      cbv
      exact (skip (.inr hD)).2 _
    · have h1 : 0 < D1.length := List.length_pos_iff.2 hD
      refine ifT (by exact lT (by omega)) fun h => ?_
      (try rw [h]); clear h
      cbv
      (try simp only [ncast] at *)
      refine call_sym hC ih (P := P ++ M1) (L := B1) (R := D1) (S := S) (a := P.length + M1.length) (m := P.length + M1.length + B1.length) (b := P.length + M1.length + B1.length + D1.length) (by omega) tr_h (by simp only [List.length_append]; omega) (by simp only [List.length_append]; omega) hmid heb hb (by simp only [List.length_append]) rfl rfl (by omega) (by omega) (List.pairwise_append.1 hL).2.1 (List.pairwise_append.1 hR).2.1 (fun t ht u hu => hLR t (List.mem_append_right _ ht) u (List.mem_append_right _ hu)) rfl fun M2 c3 hM2 hS2 tr_3 => ?_
      cbv
      exact hf _ (SymF_of (M := M1 ++ M2) (halves_perm hM1 hM2) (halves_srt hM1 hM2 hS1 hS2 hL hR hAD hCB) (by simpa using tr_3))
end Go.Sx

/- limit: sorting: a merge by search and rotation: the parts of its walk. -/
set_option maxRecDepth 100000
set_option maxHeartbeats 8000000
set_option linter.unusedVariables false
set_option linter.unusedSimpArgs false
namespace Go.Sx
open Go.Proofs.Try

/-- The lesser halves. -/
theorem p_sym10 (K : Nat) (ih : SymSpec K) {A : Ar} {C : CallT} {Kp : HkP} {E : HkE} {ag : AgT} {L : LpT} (he : SymEnv A C Kp E ag L) (P A1 B1 C1 D1 S : List Tr) (n : Nat) (aI stI midI eI bI : Int) (cs : List SV) (fi : St → Prop)
    (hf : ∀ s, SymF P (A1 ++ B1) (C1 ++ D1) S s → fi s) (tr_h : TRs (P ++ A1 ++ C1 ++ (B1 ++ D1 ++ S)) cs) (hn : n = P.length + A1.length + B1.length + C1.length + D1.length + S.length) (hl : n ≤ 1000000) (ha : aI = (P.length : Nat)) (hst : stI = (P.length + A1.length : Nat)) (hmid : midI = (P.length + A1.length + C1.length : Nat))
    (heb : eI = (P.length + A1.length + C1.length + B1.length : Nat)) (hb : bI = (P.length + A1.length + C1.length + B1.length + D1.length : Nat))
    (hK1 : A1.length + C1.length ≤ K) (hK2 : B1.length + D1.length ≤ K) (hL : Srt (A1 ++ B1)) (hR : Srt (C1 ++ D1)) (hLR : ∀ t ∈ A1 ++ B1, ∀ u ∈ C1 ++ D1, t.s < u.s) (hAD : ∀ t ∈ A1, ∀ u ∈ D1, Tlt t u) (hCB : ∀ t ∈ C1, ∀ u ∈ B1, Tlt t u)
    (w2 w19 w21 w22 w23 : SV) : SymP A C Kp E ag L 10 ⟨[(0, .lst 0 n), (1, .int .i64 aI), (2, w2), (3, .int .i64 bI), (4, cmpV), (10, .undef), (11, .undef), (12, .undef), (13, .undef), (14, .undef), (15, .undef), (16, .undef), (17, .undef), (18, .int .i64 midI), (19, w19), (20, .int .i64 stI), (21, w21), (22, w22), (23, w23), (24, .int .i64 eI)], [.lst 41 1 cs]⟩ fi := by
  have he' := he
  obtain ⟨hA, hC, hE, hag, hL0⟩ := he'
  refine xPrt_cut 1 11 rfl (by kernel_rfl) fun y hyk hyp => ?_
  have lT : ∀ {x y : Int}, x < y → A.cmp .lss x y = true := fun h => by rw [lssA hA]; exact decide_eq_true h
  have lF : ∀ {x y : Int}, ¬ x < y → A.cmp .lss x y = false := fun h => by rw [lssA hA]; exact decide_eq_false h
  cbv
  (try simp only [ncast] at *)
  by_cases hA0 : A1 = []
  · have h0 : A1.length = 0 := by rw [hA0]; rfl
    refine ifF (by exact lF (by omega)) fun h => ?_
    (try rw [h]); clear h
    cbv
    obtain ⟨M1, hM1e⟩ : ∃ M, M = A1 ++ C1 := ⟨_, rfl⟩
    have hM1 : M1.Perm (A1 ++ C1) := List.Perm.of_eq hM1e
    have tr_2 : TRs (P ++ M1 ++ B1 ++ D1 ++ S) cs := by rw [hM1e]; simpa using tr_h
    have hS1 : Srt M1 := by rw [hM1e, hA0, List.nil_append]; exact (List.pairwise_append.1 hR).1
    (try simp only [ncast] at *)
    refine (xX.eq_def A C Kp E (ag 1) (L 1) tt 220 _ _ y _ _).mp (hyk _ _ (hyp _ ?_))
    have hMl : M1.length = A1.length + C1.length := by rw [hM1.length_eq, List.length_append]
    exact p_sym11 K ih he P M1 A1 B1 C1 D1 S n 0 0 0 0 0 0 midI eI bI _ fi hf tr_2 (by simp only [List.length_append]; omega) hl (by simp only [List.length_append]; omega) (by simp only [List.length_append]; omega) (by simp only [List.length_append]; omega) hM1 hS1 hK2 hL hR hLR hAD hCB ..
  · have h0 : 0 < A1.length := List.length_pos_iff.2 hA0
    refine ifT (by exact lT (by omega)) fun h => ?_
    (try rw [h]); clear h
    cbv
    (try simp only [ncast] at *)
    by_cases hC0 : C1 = []
    · have h1 : C1.length = 0 := by rw [hC0]; rfl
      refine ifF (by exact lF (by omega)) fun h => ?_
      (try rw [h]); clear h
      cbv
      obtain ⟨M1, hM1e⟩ : ∃ M, M = A1 ++ C1 := ⟨_, rfl⟩
      have hM1 : M1.Perm (A1 ++ C1) := List.Perm.of_eq hM1e
      have tr_2 : TRs (P ++ M1 ++ B1 ++ D1 ++ S) cs := by rw [hM1e]; simpa using tr_h
      have hS1 : Srt M1 := by rw [hM1e, hC0, List.append_nil]; exact (List.pairwise_append.1 hL).1
      (try simp only [ncast] at *)
      refine (xX.eq_def A C Kp E (ag 1) (L 1) tt 220 _ _ y _ _).mp (hyk _ _ (hyp _ ?_))
      have hMl : M1.length = A1.length + C1.length := by rw [hM1.length_eq, List.length_append]
      exact p_sym11 K ih he P M1 A1 B1 C1 D1 S n 0 0 0 0 0 0 midI eI bI _ fi hf tr_2 (by simp only [List.length_append]; omega) hl (by simp only [List.length_append]; omega) (by simp only [List.length_append]; omega) (by simp only [List.length_append]; omega) hM1 hS1 hK2 hL hR hLR hAD hCB ..
    · have h1 : 0 < C1.length := List.length_pos_iff.2 hC0
      refine ifT (by exact lT (by omega)) fun h => ?_
      (try rw [h]); clear h
      cbv
      (try simp only [ncast] at *)
      refine call_sym hC ih (P := P) (L := A1) (R := C1) (S := B1 ++ D1 ++ S) (a := P.length) (m := P.length + A1.length) (b := P.length + A1.length + C1.length) (by omega) tr_h (by simp only [List.length_append]; omega) (by simp only [List.length_append]; omega) ha hst hmid rfl rfl rfl (by omega) (by omega) (List.pairwise_append.1 hL).1 (List.pairwise_append.1 hR).1 (fun t ht u hu => hLR t (List.mem_append_left _ ht) u (List.mem_append_left _ hu)) rfl fun M1 c2 hM1 hS1 tr_1 => ?_
      have tr_2 : TRs (P ++ M1 ++ B1 ++ D1 ++ S) c2 := by simpa using tr_1
      cbv
      (try simp only [ncast] at *)
      (try simp only [ncast] at *)
      refine (xX.eq_def A C Kp E (ag 1) (L 1) tt 220 _ _ y _ _).mp (hyk _ _ (hyp _ ?_))
      have hMl : M1.length = A1.length + C1.length := by rw [hM1.length_eq, List.length_append]
      exact p_sym11 K ih he P M1 A1 B1 C1 D1 S n 0 0 0 0 0 0 midI eI bI _ fi hf tr_2 (by simp only [List.length_append]; omega) hl (by simp only [List.length_append]; omega) (by simp only [List.length_append]; omega) (by simp only [List.length_append]; omega) hM1 hS1 hK2 hL hR hLR hAD hCB ..

/-- The rotation. -/
theorem p_sym8 (K : Nat) (ih : SymSpec K) {A : Ar} {C : CallT} {Kp : HkP} {E : HkE} {ag : AgT} {L : LpT} (he : SymEnv A C Kp E ag L) (P A1 B1 C1 D1 S : List Tr) (n : Nat) (aI mI nI stI midI bI : Int) (cs : List SV) (fi : St → Prop)
    (hf : ∀ s, SymF P (A1 ++ B1) (C1 ++ D1) S s → fi s) (tr_h : TRs (P ++ (A1 ++ B1) ++ (C1 ++ D1) ++ S) cs) (hn : n = P.length + A1.length + B1.length + C1.length + D1.length + S.length) (hl : n ≤ 1000000) (ha : aI = (P.length : Nat)) (hst : stI = (P.length + A1.length : Nat)) (hmid : midI = (P.length + A1.length + C1.length : Nat))
    (hm : mI = (P.length + A1.length + B1.length : Nat)) (hnI : nI = midI + mI) (hb : bI = (P.length + A1.length + C1.length + B1.length + D1.length : Nat))
    (hK1 : A1.length + C1.length ≤ K) (hK2 : B1.length + D1.length ≤ K) (hL : Srt (A1 ++ B1)) (hR : Srt (C1 ++ D1)) (hLR : ∀ t ∈ A1 ++ B1, ∀ u ∈ C1 ++ D1, t.s < u.s) (hAD : ∀ t ∈ A1, ∀ u ∈ D1, Tlt t u) (hCB : ∀ t ∈ C1, ∀ u ∈ B1, Tlt t u)
    (w21 w22 w23 : SV) : SymP A C Kp E ag L 8 ⟨[(0, .lst 0 n), (1, .int .i64 aI), (2, .int .i64 mI), (3, .int .i64 bI), (4, cmpV), (10, .undef), (11, .undef), (12, .undef), (13, .undef), (14, .undef), (15, .undef), (16, .undef), (17, .undef), (18, .int .i64 midI), (19, .int .i64 nI), (20, .int .i64 stI), (21, w21), (22, w22), (23, w23), (24, .undef)], [.lst 41 1 cs]⟩ fi := by
  have he' := he
  obtain ⟨hA, hC, hE, hag, hL0⟩ := he'
  refine xPrt_cut 2 10 rfl (by kernel_rfl) fun y hyk hyp => ?_
  have lT : ∀ {x y : Int}, x < y → A.cmp .lss x y = true := fun h => by rw [lssA hA]; exact decide_eq_true h
  have lF : ∀ {x y : Int}, ¬ x < y → A.cmp .lss x y = false := fun h => by rw [lssA hA]; exact decide_eq_false h
  have eE : A.bin .sub .i64 nI stI = nI - stI := by rw [subA' hA, wrap64 (by omega)]
  obtain ⟨eI, heI⟩ : ∃ z, z = nI - stI := ⟨_, rfl⟩
  rw [← heI] at eE
  have heb : eI = (P.length + A1.length + C1.length + B1.length : Nat) := by omega
  clear heI
  cbv
  (try simp only [ncast] at *)
  (try simp only [eE])
  by_cases hB0 : B1 = []
  · have h0 : B1.length = 0 := by rw [hB0]; rfl
    refine ifF (by exact lF (by omega)) fun h => ?_
    (try rw [h]); clear h
    cbv
    have tr_1 : TRs (P ++ A1 ++ C1 ++ (B1 ++ D1 ++ S)) cs := by rw [hB0] at tr_h ⊢; simpa using tr_h
    (try simp only [ncast] at *)
    (try simp only [eE])
    refine (xX.eq_def A C Kp E (ag 1) (L 1) tt 220 _ _ y _ _).mp (hyk _ _ (hyp _ ?_))
    exact p_sym10 K ih he P A1 B1 C1 D1 S n aI stI midI eI bI _ fi hf tr_1 hn hl ha hst hmid heb hb hK1 hK2 hL hR hLR hAD hCB ..
  · have h0 : 0 < B1.length := List.length_pos_iff.2 hB0
    refine ifT (by exact lT (by omega)) fun h => ?_
    (try rw [h]); clear h
    cbv
    (try simp only [ncast] at *)
    (try simp only [eE])
    by_cases hC0 : C1 = []
    · have h1 : C1.length = 0 := by rw [hC0]; rfl
      refine ifF (by exact lF (by omega)) fun h => ?_
      (try rw [h]); clear h
      cbv
      have tr_1 : TRs (P ++ A1 ++ C1 ++ (B1 ++ D1 ++ S)) cs := by rw [hC0] at tr_h ⊢; simpa using tr_h
      (try simp only [ncast] at *)
      (try simp only [eE])
      refine (xX.eq_def A C Kp E (ag 1) (L 1) tt 220 _ _ y _ _).mp (hyk _ _ (hyp _ ?_))
      exact p_sym10 K ih he P A1 B1 C1 D1 S n aI stI midI eI bI _ fi hf tr_1 hn hl ha hst hmid heb hb hK1 hK2 hL hR hLR hAD hCB ..
    · have h1 : 0 < C1.length := List.length_pos_iff.2 hC0
      refine ifT (by exact lT (by omega)) fun h => ?_
      (try rw [h]); clear h
      cbv
      (try simp only [ncast] at *)
      (try simp only [eE])
      refine call_rotate hC (P := P ++ A1) (X := B1) (Y := C1) (S := D1 ++ S) (a := P.length + A1.length) (m := P.length + A1.length + B1.length) (b := P.length + A1.length + B1.length + C1.length) (by simpa using tr_h) (by simp only [List.length_append]; omega) (by simp only [List.length_append]; omega) hst hm (by omega) (by simp only [List.length_append]) rfl rfl (by omega) (by omega) rfl fun c1 tr_0 => ?_
      have tr_1 : TRs (P ++ A1 ++ C1 ++ (B1 ++ D1 ++ S)) c1 := by simpa using tr_0
      cbv
      (try simp only [ncast] at *)
      (try simp only [ncast] at *)
      (try simp only [eE])
      refine (xX.eq_def A C Kp E (ag 1) (L 1) tt 220 _ _ y _ _).mp (hyk _ _ (hyp _ ?_))
      exact p_sym10 K ih he P A1 B1 C1 D1 S n aI stI midI eI bI _ fi hf tr_1 hn hl ha hst hmid heb hb hK1 hK2 hL hR hLR hAD hCB ..

/-- The search. -/
theorem p_sym6 (K : Nat) (ih : SymSpec K) {A : Ar} {C : CallT} {Kp : HkP} {E : HkE} {ag : AgT} {L : LpT} (he : SymEnv A C Kp E ag L) (P X Y S : List Tr) (n g s0 r0 : Nat) (aI mI nI sI rI midI bI : Int) (cs : List SV) (fi : St → Prop)
    (hf : ∀ s, SymF P X Y S s → fi s) (tr_h : TRs (P ++ X ++ Y ++ S) cs) (hn : n = P.length + X.length + Y.length + S.length) (hl : n ≤ 1000000) (ha : aI = (P.length : Nat)) (hm : mI = (P.length + X.length : Nat)) (hb : bI = (P.length + X.length + Y.length : Nat)) (hmid : midI = (P.length + g : Nat)) (hnI : nI = midI + mI)
    (hg : g = (X.length + Y.length) / 2) (hg1 : 1 ≤ X.length) (hg2 : 1 ≤ Y.length) (hsI : sI = (P.length + s0 : Nat)) (hrI : rI = (P.length + r0 : Nat)) (hsr : s0 ≤ r0) (hlo : s0 = 0 ∨ g = s0 + Y.length) (hlo2 : g ≤ s0 + Y.length) (hhi : r0 = g ∨ r0 = X.length) (hrg : r0 ≤ g) (hrx : r0 ≤ X.length)
    (hK : X.length + Y.length ≤ K + 1) (hsL : Srt X) (hsR : Srt Y) (hLR : ∀ t ∈ X, ∀ u ∈ Y, t.s < u.s)
    (w22 : SV) : SymP A C Kp E ag L 6 ⟨[(0, .lst 0 n), (1, .int .i64 aI), (2, .int .i64 mI), (3, .int .i64 bI), (4, cmpV), (10, .undef), (11, .undef), (12, .undef), (13, .undef), (14, .undef), (15, .undef), (16, .undef), (17, .undef), (18, .int .i64 midI), (19, .int .i64 nI), (20, .int .i64 sI), (21, .int .i64 rI), (22, w22), (23, .undef), (24, .undef)], [.lst 41 1 cs]⟩ fi := by
  have he' := he
  obtain ⟨hA, hC, hE, hag, hL⟩ := he'
  refine xPrt_cut 2 8 rfl (by kernel_rfl) fun yy hyk hyp => ?_
  obtain ⟨ts, hts⟩ : ∃ ts, ts = P ++ X ++ Y ++ S := ⟨_, rfl⟩
  have hat1 : ∀ c, c < X.length → ts[P.length + c]? = X[c]? := fun c hc => by rw [hts]; exact at_P1 hc
  have hat2 : ∀ c, c < Y.length → ts[P.length + X.length + c]? = Y[c]? := fun c hc => by rw [hts]; exact at_P2 hc
  have htl : ts.length = n := by rw [hts, hn]; simp only [List.length_append]
  rw [← hts] at tr_h
  have ep : A.bin .sub .i64 nI 1 = nI - 1 := by rw [subA' hA, wrap64 (by omega)]
  obtain ⟨pI, hpI⟩ : ∃ z, z = nI - 1 := ⟨_, rfl⟩
  rw [← hpI] at ep
  cbv
  (try simp only [ncast] at *)
  simp only [ep]
  subst hL
  refine loop_keep (fun kk s => ∃ (stI rI : Int) (p q : Nat), stI = (P.length : Int) + p ∧ rI = (P.length : Int) + q ∧ s0 ≤ p ∧ p ≤ q ∧ q ≤ r0 ∧ (∀ c, s0 ≤ c → c < p → Opp X Y g c) ∧ (∀ c, q ≤ c → c < r0 → ¬ Opp X Y g c) ∧ kk = q - p ∧
      s = ⟨[(0, .lst 0 n), (1, .int .i64 aI), (2, .int .i64 mI), (3, .int .i64 bI), (4, cmpV), (18, .int .i64 midI), (19, .int .i64 nI), (20, .int .i64 stI), (21, .int .i64 rI), (22, .int .i64 pI)], [.lst 41 1 cs]⟩)
    [0, 1, 2, 3, 4, 18, 19, 20, 21, 22] (r0 - s0) ⟨sI, rI, s0, r0, by omega, by omega, by omega, by omega, by omega, fun c h1 h2 => by omega, fun c h1 h2 => by omega, by omega, rfl⟩ ?_
  rintro kk _ ⟨stI, rI, p, st, hst, hrI, hsp, hpq, hqr, hO1, hO2, hkk, rfl⟩
  cbv
  (try simp only [ncast] at *)
  refine ifB_intro (fun h => ?_) (fun h => ?_)
  · have hlt := h
    (try simp only [wA hA] at hlt)
    (try rw [h]); clear h
    cbv
    (try simp only [ncast] at *)
    have ea : A.bin .add .i64 stI rI = stI + rI := by rw [addA hA, wrap64 (by omega)]
    have eh := half64 hA (z := stI + rI) (by omega) (by omega)
    obtain ⟨cI, hcI⟩ : ∃ z, z = (stI + rI) / 2 := ⟨_, rfl⟩
    rw [← hcI] at eh
    obtain ⟨h, hh⟩ : ∃ h : Nat, cI = (P.length : Int) + h := ⟨(cI - P.length).toNat, by omega⟩
    have e3 : A.bin .add .i64 cI 1 = cI + 1 := by rw [addA hA, wrap64 (by omega)]
    have e5 : A.bin .sub .i64 pI cI = pI - cI := by rw [subA' hA, wrap64 (by omega)]
    obtain ⟨pc, hpc⟩ : ∃ z, z = pI - cI := ⟨_, rfl⟩
    rw [← hpc] at e5
    simp only [ea, eh]
    refine ⟨by simp only [ge0A hA]; decide, ?_⟩
    (try simp only [ea, eh, e5])
    refine tr_h.rd hA (by omega) (by omega) fun y1 d1 hy1 hd1 => ?_
    rw [show 0 + pc.toNat = P.length + X.length + (g - 1 - h) by omega, hat2 (g - 1 - h) (by omega)] at hy1
    cbv
    (try simp only [ncast] at *)
    (try simp only [ea, eh, e5])
    refine tr_h.rd hA (by omega) (by omega) fun x1 c1 hx1 hc1 => ?_
    rw [show 0 + cI.toNat = P.length + h by omega, hat1 h (by omega)] at hx1
    cbv
    (try simp only [ncast] at *)
    (try simp only [ea, eh, e5])
    refine hk_callv hE hC rfl rfl ?_
    refine call_cmpN hC hd1 hc1 fun z hz => ?_
    cbv
    (try simp only [ncast] at *)
    (try simp only [ea, eh, e5])
    have hop : Opp X Y g h ↔ ¬ y1.w < x1.w := by
      constructor
      · rintro ⟨t, u, k1, k2, k3⟩
        rw [hx1] at k1
        rw [hy1] at k2
        obtain rfl := Option.some.inj k1
        obtain rfl := Option.some.inj k2
        omega
      · intro h9
        exact ⟨x1, y1, hx1, hy1, by omega⟩
    refine ifB_intro (fun h => ?_) (fun h => ?_)
    · have hc := h
      (try simp only [wA hA] at hc)
      (try rw [h]); clear h
      cbv
      (try simp only [ncast] at *)
      rw [hz, cpI_nn, ← hop] at hc
      (try simp only [ea, eh, e3, e5])
      subst hag
      refine again_keep [0, 1, 2, 3, 4, 18, 19, 20, 21, 22] (st - (h + 1)) (by omega) ⟨cI + 1, rI, h + 1, st, by omega, hrI, by omega, by omega, hqr, fun c k1 k2 => ?_, hO2, rfl, rfl⟩
      exact hc.mono hsL hsR (r := r0) (s0 := s0) (by omega) (by omega) (by omega) k1 (by omega) (by omega)
    · have hc := h
      (try simp only [wA hA] at hc)
      (try rw [h]); clear h
      cbv
      (try simp only [ncast] at *)
      rw [hz, cpI_neg] at hc
      have hno : ¬ Opp X Y g h := fun h9 => hop.1 h9 hc
      (try simp only [ea, eh, e3, e5])
      subst hag
      refine again_keep [0, 1, 2, 3, 4, 18, 19, 20, 21, 22] (h - p) (by omega) ⟨stI, cI, p, h, hst, by omega, by omega, by omega, by omega, hO1, fun c k1 k2 h9 => ?_, rfl, rfl⟩
      exact hno (h9.mono hsL hsR (r := r0) (s0 := s0) (by omega) (by omega) (by omega) (by omega) k1 k2)
  · have hge := h
    (try simp only [wA hA] at hge)
    (try rw [h]); clear h
    cbv
    (try simp only [ncast] at *)
    obtain rfl : p = st := by omega
    obtain ⟨e, hee⟩ : ∃ e, e = g - p := ⟨_, rfl⟩
    obtain ⟨hAD, hCB⟩ := halves hsL hsR hLR (g := g) (st := p) (e := e) (s0 := s0) (r0 := r0) hee (by omega) hsp hqr (by omega) (by omega) (by omega) (by omega) (by omega) hO1 hO2
    have l1 : (X.take p).length = p := by rw [List.length_take]; omega
    have l2 : (X.drop p).length = X.length - p := List.length_drop
    have l3 : (Y.take e).length = e := by rw [List.length_take]; omega
    have l4 : (Y.drop e).length = Y.length - e := List.length_drop
    have hXs : X.take p ++ X.drop p = X := List.take_append_drop _ _
    have hYs : Y.take e ++ Y.drop e = Y := List.take_append_drop _ _
    refine (xX.eq_def A C Kp E (ag 1) (Loops 1) tt 220 _ _ yy _ _).mp (hyk _ _ (hyp _ ?_))
    (try simp only [ncast] at *)
    refine p_sym8 K ih he P (X.take p) (X.drop p) (Y.take e) (Y.drop e) S n aI mI nI stI midI bI cs fi (by rw [hXs, hYs]; exact hf) (by rw [hXs, hYs, ← hts]; exact tr_h) (by omega) hl ha (by omega) (by omega) (by omega) hnI (by omega) (by omega) (by omega) (by rw [hXs]; exact hsL) (by rw [hYs]; exact hsR) (by rw [hXs, hYs]; exact hLR) hAD hCB ..
end Go.Sx

/- limit: sorting: a merge by search and rotation: its beginning; the contract. -/
set_option maxRecDepth 100000
set_option maxHeartbeats 8000000
set_option linter.unusedVariables false
set_option linter.unusedSimpArgs false
namespace Go.Sx
open Go.Proofs.Try

/-- Where the search begins. -/
theorem p_sym2 (K : Nat) (ih : SymSpec K) {A : Ar} {C : CallT} {Kp : HkP} {E : HkE} {ag : AgT} {L : LpT} (he : SymEnv A C Kp E ag L) (P X Y S : List Tr) (n a m b : Nat) (aI mI bI : Int) (cs : List SV) (fi : St → Prop) (hf : ∀ s, SymF P X Y S s → fi s) (hK : X.length + Y.length ≤ K + 1) (tr_h : TRs (P ++ X ++ Y ++ S) cs) (hn : n = (P ++ X ++ Y ++ S).length) (hl : (P ++ X ++ Y ++ S).length ≤ 1000000)
    (ha : aI = a) (hm : mI = m) (hb : bI = b) (ha' : a = P.length) (hm' : m = a + X.length) (hb' : b = m + Y.length) (hL1 : 1 ≤ X.length) (hR1 : 1 ≤ Y.length) (hsL : Srt X) (hsR : Srt Y) (hLR : ∀ t ∈ X, ∀ u ∈ Y, t.s < u.s) :
    SymP A C Kp E ag L 2 ⟨[(0, .lst 0 n), (1, .int .i64 aI), (2, .int .i64 mI), (3, .int .i64 bI), (4, cmpV), (10, .undef), (11, .undef), (12, .undef), (13, .undef), (14, .undef), (15, .undef), (16, .undef), (17, .undef), (18, .undef), (19, .undef), (20, .undef), (21, .undef), (22, .undef), (23, .undef), (24, .undef)], [.lst 41 1 cs]⟩ fi := by
  have he' := he
  obtain ⟨hA, hC, hE, hag, hL⟩ := he'
  refine xPrt_cut 4 6 rfl (by kernel_rfl) fun y hyk hyp => ?_
  simp only [List.length_append] at hn hl
  obtain ⟨g, hg⟩ : ∃ g, g = (X.length + Y.length) / 2 := ⟨_, rfl⟩
  have ea : A.bin .add .i64 aI bI = aI + bI := by rw [addA hA, wrap64 (by omega)]
  have eh := half64 hA (z := aI + bI) (by omega) (by omega)
  obtain ⟨midI, hmidI⟩ : ∃ z, z = (aI + bI) / 2 := ⟨_, rfl⟩
  rw [← hmidI] at eh
  have hmid : midI = (P.length + g : Nat) := by omega
  have en : A.bin .add .i64 midI mI = midI + mI := by rw [addA hA, wrap64 (by omega)]
  obtain ⟨nI, hnI⟩ : ∃ z, z = midI + mI := ⟨_, rfl⟩
  rw [← hnI] at en
  have es : A.bin .sub .i64 nI bI = nI - bI := by rw [subA' hA, wrap64 (by omega)]
  obtain ⟨sI, hsI⟩ : ∃ z, z = nI - bI := ⟨_, rfl⟩
  rw [← hsI] at es
  cbv
  (try simp only [ncast] at *)
  simp only [ea, eh]
  refine ⟨by simp only [ge0A hA]; decide, ?_⟩
  (try simp only [ea, eh, en])
  refine ifB_intro (fun h => ?_) (fun h => ?_)
  · have hbig := h
    (try simp only [wA hA] at hbig)
    (try rw [h]); clear h
    cbv
    (try simp only [ncast] at *)
    (try simp only [es])
    refine (xX.eq_def A C Kp E (ag 1) (L 1) tt 220 _ _ y _ _).mp (hyk _ _ (hyp _ ?_))
    exact p_sym6 K ih he P X Y S n g (g - Y.length) g aI mI nI sI midI midI bI cs fi hf tr_h (by omega) (by omega) (by omega) (by omega) (by omega) (by omega) hnI hg hL1 hR1 (by omega) (by omega) (by omega) (by omega) (by omega) (.inl rfl) (by omega) (by omega) hK hsL hsR hLR ..
  · have hsml := h
    (try simp only [wA hA] at hsml)
    (try rw [h]); clear h
    cbv
    (try simp only [ncast] at *)
    refine (xX.eq_def A C Kp E (ag 1) (L 1) tt 220 _ _ y _ _).mp (hyk _ _ (hyp _ ?_))
    exact p_sym6 K ih he P X Y S n g 0 X.length aI mI nI aI mI midI bI cs fi hf tr_h (by omega) (by omega) (by omega) (by omega) (by omega) (by omega) hnI hg hL1 hR1 (by omega) (by omega) (by omega) (.inl rfl) (by omega) (.inr rfl) (by omega) (by omega) hK hsL hsR hLR ..

/-- One behind a row. -/
theorem p_sym1 (K : Nat) (ih : SymSpec K) {A : Ar} {C : CallT} {Kp : HkP} {E : HkE} {ag : AgT} {L : LpT} (he : SymEnv A C Kp E ag L) (P X Y S : List Tr) (n a m b : Nat) (aI mI bI : Int) (cs : List SV) (fi : St → Prop) (hf : ∀ s, SymF P X Y S s → fi s) (hK : X.length + Y.length ≤ K + 1) (tr_h : TRs (P ++ X ++ Y ++ S) cs) (hn : n = (P ++ X ++ Y ++ S).length) (hl : (P ++ X ++ Y ++ S).length ≤ 1000000)
    (ha : aI = a) (hm : mI = m) (hb : bI = b) (ha' : a = P.length) (hm' : m = a + X.length) (hb' : b = m + Y.length) (hL1 : 1 ≤ X.length) (hR1 : 1 ≤ Y.length) (hsL : Srt X) (hsR : Srt Y) (hLR : ∀ t ∈ X, ∀ u ∈ Y, t.s < u.s) :
    SymP A C Kp E ag L 1 ⟨[(0, .lst 0 n), (1, .int .i64 aI), (2, .int .i64 mI), (3, .int .i64 bI), (4, cmpV), (10, .undef), (11, .undef), (12, .undef), (13, .undef), (14, .undef), (15, .undef), (16, .undef), (17, .undef), (18, .undef), (19, .undef), (20, .undef), (21, .undef), (22, .undef), (23, .undef), (24, .undef)], [.lst 41 1 cs]⟩ fi := by
  have he' := he
  obtain ⟨hA, hC, hE, hag, hL⟩ := he'
  refine xPrt_cut 1 2 rfl (by kernel_rfl) fun yy hyk hyp => ?_
  have hgo := fun (t : List (Nat × SV)) (h : xkeep t symKs = [(0, .lst 0 n), (1, .int .i64 aI), (2, .int .i64 mI), (3, .int .i64 bI), (4, cmpV), (10, .undef), (11, .undef), (12, .undef), (13, .undef), (14, .undef), (15, .undef), (16, .undef), (17, .undef), (18, .undef), (19, .undef), (20, .undef), (21, .undef), (22, .undef), (23, .undef), (24, .undef)]) => hyk t [.lst 41 1 cs] (hyp _ (by rw [h]; exact p_sym2 K ih he P X Y S n a m b aI mI bI cs fi hf hK tr_h hn hl ha hm hb ha' hm' hb' hL1 hR1 hsL hsR hLR))
  obtain ⟨ts, hts⟩ : ∃ ts, ts = P ++ X ++ Y ++ S := ⟨_, rfl⟩
  have hat1 : ∀ c, c < X.length → ts[a + c]? = X[c]? := fun c hc => by rw [hts, ha']; exact at_P1 hc
  have hat2 : ∀ c, c < Y.length → ts[m + c]? = Y[c]? := fun c hc => by rw [hts, hm', ha']; exact at_P2 hc
  have htl : ts.length = n := by rw [hts, hn]
  simp only [List.length_append] at hn hl
  have e2 : A.bin .sub .i64 bI mI = ((Y.length : Nat) : Int) := by rw [subA' hA, wrap64 (by omega)]; omega
  obtain ⟨rl, hrl⟩ : ∃ z : Int, z = ((Y.length : Nat) : Int) := ⟨_, rfl⟩
  rw [← hrl] at e2
  rw [← hts] at tr_h
  cbv
  (try simp only [ncast] at *)
  simp only [e2]
  refine ifB_intro (fun h => ?_) (fun h => ?_)
  · have hone2 := h
    (try simp only [wA hA] at hone2)
    (try rw [h]); clear h
    cbv
    (try simp only [ncast] at *)
    obtain ⟨x, rfl⟩ : ∃ x, Y = [x] := by
      cases Y with
      | nil => simp at hR1
      | cons x r => cases r with
        | nil => exact ⟨x, rfl⟩
        | cons y r => simp at hrl; omega
    have hYl : ([x] : List Tr).length = 1 := rfl
    have hmono : ∀ c d, c ≤ d → d < X.length → (∃ t, X[d]? = some t ∧ t.w ≤ x.w) → (∃ t, X[c]? = some t ∧ t.w ≤ x.w) := by
      rintro c d hcd hd ⟨t, ht, hw⟩
      obtain ⟨u, hu⟩ : ∃ u, X[c]? = some u := ⟨X[c]'(by omega), List.getElem?_eq_getElem _⟩
      have := srt_w hsL hcd hu ht
      exact ⟨u, hu, by omega⟩
    subst hL
    refine loop_keep (fun kk s => ∃ (iI jI : Int) (p q : Nat), iI = (a : Int) + p ∧ jI = (a : Int) + q ∧ p ≤ q ∧ q ≤ X.length ∧ Sch p q X.length (fun c => ∃ t, X[c]? = some t ∧ t.w ≤ x.w) ∧ kk = q - p ∧ s = ⟨[(0, .lst 0 n), (2, .int .i64 mI), (4, cmpV), (14, .int .i64 iI), (15, .int .i64 jI)], [.lst 41 1 cs]⟩)
      [0, 2, 4, 14, 15] X.length ⟨aI, mI, 0, X.length, by omega, by omega, by omega, by omega, ⟨fun c hc => by omega, fun c h1 h2 => by omega⟩, by omega, rfl⟩ ?_
    rintro kk _ ⟨iI, jI, p, q, hi, hj, hpq, hqR, hS, hkk, rfl⟩
    cbv
    (try simp only [ncast] at *)
    refine ifB_intro (fun h => ?_) (fun h => ?_)
    · have hlt := h
      (try simp only [wA hA] at hlt)
      (try rw [h]); clear h
      cbv
      (try simp only [ncast] at *)
      have ea : A.bin .add .i64 iI jI = iI + jI := by rw [addA hA, wrap64 (by omega)]
      have eh := half64 hA (z := iI + jI) (by omega) (by omega)
      obtain ⟨hI, hhI⟩ : ∃ z, z = (iI + jI) / 2 := ⟨_, rfl⟩
      rw [← hhI] at eh
      obtain ⟨h, hh⟩ : ∃ h : Nat, hI = (a : Int) + h := ⟨(hI - a).toNat, by omega⟩
      have e3 : A.bin .add .i64 hI 1 = hI + 1 := by rw [addA hA, wrap64 (by omega)]
      simp only [ea, eh]
      refine ⟨by simp only [ge0A hA]; decide, ?_⟩
      refine tr_h.rd hA (by omega) (by omega) fun x1 c1 hx1 hc1 => ?_
      rw [show 0 + mI.toNat = m + 0 by omega, hat2 0 (by simp)] at hx1
      obtain rfl : x = x1 := by simpa using hx1
      cbv
      (try simp only [ncast] at *)
      (try simp only [ea, eh])
      refine tr_h.rd hA (by omega) (by omega) fun y1 d1 hy1 hd1 => ?_
      rw [show 0 + hI.toNat = a + h by omega, hat1 h (by omega)] at hy1
      cbv
      (try simp only [ncast] at *)
      (try simp only [ea, eh])
      refine hk_callv hE hC rfl rfl ?_
      refine call_cmpN hC hc1 hd1 fun z hz => ?_
      cbv
      (try simp only [ncast] at *)
      (try simp only [ea, eh])
      refine ifB_intro (fun h => ?_) (fun h => ?_)
      · have hc := h
        (try simp only [wA hA] at hc)
        (try rw [h]); clear h
        cbv
        (try simp only [ncast] at *)
        rw [hz, cpI_nn] at hc
        (try simp only [ea, eh, e3])
        subst hag
        refine again_keep [0, 2, 4, 14, 15] (q - (h + 1)) (by omega) ⟨hI + 1, jI, h + 1, q, by omega, hj, by omega, hqR, hS.up hmono (by omega) ⟨y1, hy1, by omega⟩, rfl, rfl⟩
      · have hc := h
        (try simp only [wA hA] at hc)
        (try rw [h]); clear h
        cbv
        (try simp only [ncast] at *)
        rw [hz, cpI_neg] at hc
        (try simp only [ea, eh, e3])
        subst hag
        refine again_keep [0, 2, 4, 14, 15] (h - p) (by omega) ⟨iI, hI, p, h, hi, by omega, by omega, by omega, hS.dn hmono ?_, rfl, rfl⟩
        rintro ⟨t, ht, hw⟩
        rw [hy1] at ht
        obtain rfl := Option.some.inj ht
        omega
    · have hge := h
      (try simp only [wA hA] at hge)
      (try rw [h]); clear h
      cbv
      (try simp only [ncast] at *)
      obtain rfl : p = q := by omega
      refine ⟨fun kk s => ∃ (kI : Int) (k : Nat) (ds : List SV), kI = (a : Int) + k ∧ p ≤ k ∧ k ≤ X.length ∧ TRs (P ++ X.take k ++ x :: (X.drop k ++ S)) ds ∧ kk = k - p ∧ s = ⟨[(0, .lst 0 n), (14, .int .i64 iI), (17, .int .i64 kI)], [.lst 41 1 ds]⟩,
        ⟨X.length - p, ⟨[(0, .lst 0 n), (14, .int .i64 iI), (17, .int .i64 mI)], [.lst 41 1 cs]⟩, ?_, mI, X.length, cs, by omega, by omega, by omega, ?_, by omega, rfl⟩, ?_⟩
      · subst hA
        exact Sc [0] (by repeat' (first | exact trivial | exact fun _ => rfl | exact fun h => absurd h (by simp) | exact subC_ints rfl | exact subC_tr tr_h rfl | exact subC_trv tr_h rfl rfl | refine And.intro ?_ ?_ | rfl | (simp [subH_nil, hLts, hLt, renCk, renC, sg, Ck.cells, R_ints_ren, R_ints_hLts]; done)))
      · rw [hts] at tr_h; simpa using tr_h
      clear tr_h
      rintro kk _ ⟨kI, k, ds, hkI, hpk, hkX, tr_u, hkk, rfl⟩
      have e4 : A.bin .sub .i64 kI 1 = kI - 1 := by rw [subA' hA, wrap64 (by omega)]
      obtain ⟨km, hkm⟩ : ∃ z, z = kI - 1 := ⟨_, rfl⟩
      rw [← hkm] at e4
      have htk : (X.take k).length = k := by rw [List.length_take]; omega
      have hall : (P ++ X.take k ++ x :: (X.drop k ++ S)).length = n := by simp only [List.length_append, List.length_cons, List.length_drop, htk]; omega
      cbv
      (try simp only [ncast] at *)
      refine ifB_intro (fun h => ?_) (fun h => ?_)
      · have hlt2 := h
        (try simp only [wA hA] at hlt2)
        (try rw [h]); clear h
        cbv
        (try simp only [ncast] at *)
        obtain ⟨k, rfl⟩ : ∃ k', k = k' + 1 := ⟨k - 1, by omega⟩
        obtain ⟨y, hy⟩ : ∃ y, X[k]? = some y := ⟨X[k], List.getElem?_eq_getElem _⟩
        have hdr : X.drop k = y :: X.drop (k + 1) := by
          obtain ⟨h1, h2⟩ := List.getElem?_eq_some_iff.1 hy
          rw [List.drop_eq_getElem_cons h1, h2]
        have htk1 : X.take (k + 1) = X.take k ++ [y] := by rw [List.take_add_one, hy]; rfl
        have htk0 : (X.take k).length = k := by rw [List.length_take]; omega
        have hts2 : P ++ X.take (k + 1) ++ x :: (X.drop (k + 1) ++ S) = P ++ X.take k ++ y :: x :: (X.drop (k + 1) ++ S) := by rw [htk1]; simp
        rw [hts2] at tr_u hall
        have hp1 : (P ++ X.take k).length = a + k := by rw [List.length_append, htk0, ha']
        have g0 : (P ++ X.take k ++ y :: x :: (X.drop (k + 1) ++ S))[a + k]? = some y := at_0 hp1.symm
        have g1 : (P ++ X.take k ++ y :: x :: (X.drop (k + 1) ++ S))[a + k + 1]? = some x := at_1 (by omega)
        have hz1 : 0 + kI.toNat = a + k + 1 := by omega
        have hz0 : 0 + km.toNat = a + k := by omega
        obtain ⟨vs, hvs⟩ : ∃ vs, vs = P ++ X.take k ++ x :: y :: (X.drop (k + 1) ++ S) := ⟨_, rfl⟩
        have hsw := swap_adj (U := P ++ X.take k) (V := X.drop (k + 1) ++ S) (x := x) (y := y) (k := a + k) hp1.symm
        rw [← hvs] at hsw
        refine ⟨⟨[[0,1,2,3,4,5,6,7,8,9,10,11,12,13,14,15,16,17],[0,1,2,3,4,5,6,7,8,10,11,12,13,9,14,15,16,17]], by kernel_rfl, fun F hF => ?_⟩⟩
        have h3 : ∀ es, TRs vs es → F ⟨[(0, .lst 0 n), (14, .int .i64 iI), (17, .int .i64 kI)], [.lst 41 1 es]⟩ := by
          intro es tr_e
          refine hF _ ?_
          clear hF
          cbv
          (try simp only [ncast] at *)
          simp only [e4]
          subst hag
          refine ⟨k - p, ⟨[(0, .lst 0 n), (14, .int .i64 iI), (17, .int .i64 km)], [.lst 41 1 es]⟩, by omega, ?_, km, k, es, by omega, by omega, by omega, ?_, rfl, rfl⟩
          · subst hA
            exact Sc [0] (by repeat' (first | exact trivial | exact fun _ => rfl | exact fun h => absurd h (by simp) | exact subC_ints rfl | exact subC_tr tr_e rfl | exact subC_trv tr_e rfl rfl | refine And.intro ?_ ?_ | rfl | (simp [subH_nil, hLts, hLt, renCk, renC, sg, Ck.cells, R_ints_ren, R_ints_hLts]; done)))
          · rw [hvs] at tr_e; rw [hdr]; simpa using tr_e
        clear hF
        cbv
        (try simp only [ncast] at *)
        (try simp only [e4])
        refine ⟨?_, ?_, trivial⟩
        · refine tr_u.rd hA (by omega) (by omega) fun y2 d2 hy2 hd2 => ?_
          rw [hz0, g0] at hy2
          obtain rfl := Option.some.inj hy2
          cbv
          (try simp only [ncast] at *)
          (try simp only [e4])
          refine tr_u.rd hA (by omega) (by omega) fun x2 c2 hx2 hc2 => ?_
          rw [hz1, g1] at hx2
          obtain rfl := Option.some.inj hx2
          cbv
          (try simp only [ncast] at *)
          (try simp only [e4])
          refine tr_u.wr hA hd2 (by omega) (by omega) fun u1 f1 hu1 tr_1 => ?_
          cbv
          (try simp only [ncast] at *)
          (try simp only [e4])
          have hul1 : u1.length = n := by rw [hu1, List.length_set]; exact hall
          refine tr_1.wr hA hc2 (by omega) (by omega) fun u2 f2 hu2 tr_2 => ?_
          cbv
          (try simp only [ncast] at *)
          (try simp only [e4])
          rw [hz1] at hu1
          rw [hz0] at hu2
          have he : u2 = vs := by rw [hu2, hu1]; exact hsw
          rw [he] at tr_2
          have h4 := h3 _ tr_2
          subst hA hag
          refine ⟨0, _, Nat.zero_lt_one, ?_, h4⟩
          exact Sc [0] (by repeat' (first | exact trivial | exact fun _ => rfl | exact fun h => absurd h (by simp) | exact subC_ints rfl | exact subC_tr tr_2 rfl | exact subC_trv tr_2 rfl rfl | refine And.intro ?_ ?_ | rfl | (simp [subH_nil, hLts, hLt, renCk, renC, sg, Ck.cells, R_ints_ren, R_ints_hLts]; done)))
        · have hin : A.inr km n := by rw [inrA hA]; omega
          refine ⟨hin, ?_⟩
          refine tr_u.rd hA (by omega) (by omega) fun x2 c2 hx2 hc2 => ?_
          rw [hz1, g1] at hx2
          obtain rfl := Option.some.inj hx2
          cbv
          (try simp only [ncast] at *)
          (try simp only [e4])
          refine (tr_u.rd hA (i := km) (n := n) (by omega) (by omega) fun y2 d2 hy2 hd2 => ?_).2
          rw [hz0, g0] at hy2
          obtain rfl := Option.some.inj hy2
          cbv
          (try simp only [ncast] at *)
          (try simp only [e4])
          refine tr_u.wr hA hd2 (by omega) (by omega) fun u1 f1 hu1 tr_1 => ?_
          cbv
          (try simp only [ncast] at *)
          (try simp only [e4])
          have hul1 : u1.length = n := by rw [hu1, List.length_set]; exact hall
          refine tr_1.wr hA hc2 (by omega) (by omega) fun u2 f2 hu2 tr_2 => ?_
          cbv
          (try simp only [ncast] at *)
          (try simp only [e4])
          rw [hz1] at hu1
          rw [hz0] at hu2
          have he : u2 = vs := by rw [hu2, hu1]; exact hsw
          rw [he] at tr_2
          have h4 := h3 _ tr_2
          subst hA hag
          refine ⟨0, _, Nat.zero_lt_one, ?_, h4⟩
          exact Sc [0] (by repeat' (first | exact trivial | exact fun _ => rfl | exact fun h => absurd h (by simp) | exact subC_ints rfl | exact subC_tr tr_2 rfl | exact subC_trv tr_2 rfl rfl | refine And.intro ?_ ?_ | rfl | (simp [subH_nil, hLts, hLt, renCk, renC, sg, Ck.cells, R_ints_ren, R_ints_hLts]; done)))
      · have hge2 := h
        (try simp only [wA hA] at hge2)
        (try rw [h]); clear h
        cbv
        (try simp only [ncast] at *)
        obtain rfl : k = p := by omega
        have hM := one_right hsL (fun t ht => hLR t ht x (by simp)) hqR hS
        refine hf _ (SymF_of (M := X.take k ++ x :: X.drop k) ?_ hM (by simpa using tr_u))
        refine perm_mid.trans ?_
        rw [List.take_append_drop]
        exact (List.perm_append_singleton x X).symm
  · have hone2 := h
    (try simp only [wA hA] at hone2)
    (try rw [h]); clear h
    cbv
    (try simp only [ncast] at *)
    exact (xX.eq_def A C Kp E (ag 1) (L 1) tt 220 _ _ yy _ _).mp (hgo _ rfl)

/-- One ahead of a row. -/
theorem p_sym0 (K : Nat) (ih : SymSpec K) {A : Ar} {C : CallT} {Kp : HkP} {E : HkE} {ag : AgT} {L : LpT} (he : SymEnv A C Kp E ag L) (P X Y S : List Tr) (n a m b : Nat) (aI mI bI : Int) (cs : List SV) (fi : St → Prop) (hf : ∀ s, SymF P X Y S s → fi s) (hK : X.length + Y.length ≤ K + 1) (tr_h : TRs (P ++ X ++ Y ++ S) cs) (hn : n = (P ++ X ++ Y ++ S).length) (hl : (P ++ X ++ Y ++ S).length ≤ 1000000)
    (ha : aI = a) (hm : mI = m) (hb : bI = b) (ha' : a = P.length) (hm' : m = a + X.length) (hb' : b = m + Y.length) (hL1 : 1 ≤ X.length) (hR1 : 1 ≤ Y.length) (hsL : Srt X) (hsR : Srt Y) (hLR : ∀ t ∈ X, ∀ u ∈ Y, t.s < u.s) :
    SymP A C Kp E ag L 0 ⟨iniT 0 [.lst 0 n, .int .i64 aI, .int .i64 mI, .int .i64 bI, cmpV], [.lst 41 1 cs]⟩ fi := by
  have he' := he
  obtain ⟨hA, hC, hE, hag, hL⟩ := he'
  refine xPrt_cut 1 1 rfl (by kernel_rfl) fun yy hyk hyp => ?_
  have hgo := fun (t : List (Nat × SV)) (h : xkeep t symKs = [(0, .lst 0 n), (1, .int .i64 aI), (2, .int .i64 mI), (3, .int .i64 bI), (4, cmpV), (10, .undef), (11, .undef), (12, .undef), (13, .undef), (14, .undef), (15, .undef), (16, .undef), (17, .undef), (18, .undef), (19, .undef), (20, .undef), (21, .undef), (22, .undef), (23, .undef), (24, .undef)]) => hyk t [.lst 41 1 cs] (hyp _ (by rw [h]; exact p_sym1 K ih he P X Y S n a m b aI mI bI cs fi hf hK tr_h hn hl ha hm hb ha' hm' hb' hL1 hR1 hsL hsR hLR))
  obtain ⟨ts, hts⟩ : ∃ ts, ts = P ++ X ++ Y ++ S := ⟨_, rfl⟩
  have hat1 : ∀ c, c < X.length → ts[a + c]? = X[c]? := fun c hc => by rw [hts, ha']; exact at_P1 hc
  have hat2 : ∀ c, c < Y.length → ts[m + c]? = Y[c]? := fun c hc => by rw [hts, hm', ha']; exact at_P2 hc
  have htl : ts.length = n := by rw [hts, hn]
  simp only [List.length_append] at hn hl
  have e1 : A.bin .sub .i64 mI aI = ((X.length : Nat) : Int) := by rw [subA' hA, wrap64 (by omega)]; omega
  obtain ⟨ll, hll⟩ : ∃ z : Int, z = ((X.length : Nat) : Int) := ⟨_, rfl⟩
  rw [← hll] at e1
  rw [← hts] at tr_h
  cbv
  (try simp only [ncast] at *)
  simp only [e1]
  refine ifB_intro (fun h => ?_) (fun h => ?_)
  · have hone := h
    (try simp only [wA hA] at hone)
    (try rw [h]); clear h
    cbv
    (try simp only [ncast] at *)
    obtain ⟨x, rfl⟩ : ∃ x, X = [x] := by
      cases X with
      | nil => simp at hL1
      | cons x r => cases r with
        | nil => exact ⟨x, rfl⟩
        | cons y r => simp at hll; omega
    have hLl : ([x] : List Tr).length = 1 := rfl
    have hmono : ∀ c d, c ≤ d → d < Y.length → (∃ t, Y[d]? = some t ∧ t.w < x.w) → (∃ t, Y[c]? = some t ∧ t.w < x.w) := by
      rintro c d hcd hd ⟨t, ht, hw⟩
      obtain ⟨u, hu⟩ : ∃ u, Y[c]? = some u := ⟨Y[c]'(by omega), List.getElem?_eq_getElem _⟩
      have := srt_w hsR hcd hu ht
      exact ⟨u, hu, by omega⟩
    subst hL
    refine loop_keep (fun kk s => ∃ (iI jI : Int) (p q : Nat), iI = (m : Int) + p ∧ jI = (m : Int) + q ∧ p ≤ q ∧ q ≤ Y.length ∧ Sch p q Y.length (fun c => ∃ t, Y[c]? = some t ∧ t.w < x.w) ∧ kk = q - p ∧ s = ⟨[(0, .lst 0 n), (1, .int .i64 aI), (4, cmpV), (10, .int .i64 iI), (11, .int .i64 jI)], [.lst 41 1 cs]⟩)
      [0, 1, 4, 10, 11] Y.length ⟨mI, bI, 0, Y.length, by omega, by omega, by omega, by omega, ⟨fun c hc => by omega, fun c h1 h2 => by omega⟩, by omega, rfl⟩ ?_
    rintro kk _ ⟨iI, jI, p, q, hi, hj, hpq, hqR, hS, hkk, rfl⟩
    cbv
    (try simp only [ncast] at *)
    refine ifB_intro (fun h => ?_) (fun h => ?_)
    · have hlt := h
      (try simp only [wA hA] at hlt)
      (try rw [h]); clear h
      cbv
      (try simp only [ncast] at *)
      have ea : A.bin .add .i64 iI jI = iI + jI := by rw [addA hA, wrap64 (by omega)]
      have eh := half64 hA (z := iI + jI) (by omega) (by omega)
      obtain ⟨hI, hhI⟩ : ∃ z, z = (iI + jI) / 2 := ⟨_, rfl⟩
      rw [← hhI] at eh
      obtain ⟨h, hh⟩ : ∃ h : Nat, hI = (m : Int) + h := ⟨(hI - m).toNat, by omega⟩
      have e3 : A.bin .add .i64 hI 1 = hI + 1 := by rw [addA hA, wrap64 (by omega)]
      simp only [ea, eh]
      refine ⟨by simp only [ge0A hA]; decide, ?_⟩
      refine tr_h.rd hA (by omega) (by omega) fun y1 d1 hy1 hd1 => ?_
      rw [show 0 + hI.toNat = m + h by omega, hat2 h (by omega)] at hy1
      cbv
      (try simp only [ncast] at *)
      (try simp only [ea, eh])
      refine tr_h.rd hA (by omega) (by omega) fun x1 c1 hx1 hc1 => ?_
      rw [show 0 + aI.toNat = a + 0 by omega, hat1 0 (by simp)] at hx1
      obtain rfl : x = x1 := by simpa using hx1
      cbv
      (try simp only [ncast] at *)
      (try simp only [ea, eh])
      refine hk_callv hE hC rfl rfl ?_
      refine call_cmpN hC hd1 hc1 fun z hz => ?_
      cbv
      (try simp only [ncast] at *)
      (try simp only [ea, eh])
      refine ifB_intro (fun h => ?_) (fun h => ?_)
      · have hc := h
        (try simp only [wA hA] at hc)
        (try rw [h]); clear h
        cbv
        (try simp only [ncast] at *)
        rw [hz, cpI_neg] at hc
        (try simp only [ea, eh, e3])
        subst hag
        refine again_keep [0, 1, 4, 10, 11] (q - (h + 1)) (by omega) ⟨hI + 1, jI, h + 1, q, by omega, hj, by omega, hqR, hS.up hmono (by omega) ⟨y1, hy1, hc⟩, rfl, rfl⟩
      · have hc := h
        (try simp only [wA hA] at hc)
        (try rw [h]); clear h
        cbv
        (try simp only [ncast] at *)
        rw [hz, cpI_nn] at hc
        (try simp only [ea, eh, e3])
        subst hag
        refine again_keep [0, 1, 4, 10, 11] (h - p) (by omega) ⟨iI, hI, p, h, hi, by omega, by omega, by omega, hS.dn hmono ?_, rfl, rfl⟩
        rintro ⟨t, ht, hw⟩
        rw [hy1] at ht
        obtain rfl := Option.some.inj ht
        exact hc hw
    · have hge := h
      (try simp only [wA hA] at hge)
      (try rw [h]); clear h
      cbv
      (try simp only [ncast] at *)
      obtain rfl : p = q := by omega
      have e3 : A.bin .sub .i64 iI 1 = iI - 1 := by rw [subA' hA, wrap64 (by omega)]
      obtain ⟨im, him⟩ : ∃ z, z = iI - 1 := ⟨_, rfl⟩
      rw [← him] at e3
      refine ⟨fun kk s => ∃ (kI : Int) (k : Nat) (ds : List SV), kI = (a : Int) + k ∧ k ≤ p ∧ TRs (P ++ Y.take k ++ x :: (Y.drop k ++ S)) ds ∧ kk = p - k ∧ s = ⟨[(0, .lst 0 n), (10, .int .i64 iI), (13, .int .i64 kI)], [.lst 41 1 ds]⟩,
        ⟨p, ⟨[(0, .lst 0 n), (10, .int .i64 iI), (13, .int .i64 aI)], [.lst 41 1 cs]⟩, ?_, aI, 0, cs, by omega, by omega, ?_, by omega, rfl⟩, ?_⟩
      · subst hA
        exact Sc [0] (by repeat' (first | exact trivial | exact fun _ => rfl | exact fun h => absurd h (by simp) | exact subC_ints rfl | exact subC_tr tr_h rfl | exact subC_trv tr_h rfl rfl | refine And.intro ?_ ?_ | rfl | (simp [subH_nil, hLts, hLt, renCk, renC, sg, Ck.cells, R_ints_ren, R_ints_hLts]; done)))
      · rw [hts] at tr_h; simpa using tr_h
      clear tr_h
      rintro kk _ ⟨kI, k, ds, hkI, hkp, tr_u, hkk, rfl⟩
      have e4 : A.bin .add .i64 kI 1 = kI + 1 := by rw [addA hA, wrap64 (by omega)]
      obtain ⟨kp, hkpI⟩ : ∃ z, z = kI + 1 := ⟨_, rfl⟩
      rw [← hkpI] at e4
      have htk : (Y.take k).length = k := by rw [List.length_take]; omega
      have hall : (P ++ Y.take k ++ x :: (Y.drop k ++ S)).length = n := by simp only [List.length_append, List.length_cons, List.length_drop, htk]; omega
      cbv
      (try simp only [ncast] at *)
      (try simp only [e3])
      refine ifB_intro (fun h => ?_) (fun h => ?_)
      · have hlt2 := h
        (try simp only [wA hA] at hlt2)
        (try rw [h]); clear h
        cbv
        (try simp only [ncast] at *)
        have hkR : k < Y.length := by omega
        obtain ⟨y, hy⟩ : ∃ y, Y[k]? = some y := ⟨Y[k], List.getElem?_eq_getElem _⟩
        have hdr : Y.drop k = y :: Y.drop (k + 1) := by
          obtain ⟨h1, h2⟩ := List.getElem?_eq_some_iff.1 hy
          rw [List.drop_eq_getElem_cons h1, h2]
        have htk1 : Y.take (k + 1) = Y.take k ++ [y] := by rw [List.take_add_one, hy]; rfl
        rw [hdr] at tr_u hall
        have hp1 : (P ++ Y.take k).length = a + k := by rw [List.length_append, htk, ha']
        have g0 : (P ++ Y.take k ++ x :: (y :: Y.drop (k + 1) ++ S))[a + k]? = some x := at_0 hp1.symm
        have g1 : (P ++ Y.take k ++ x :: (y :: Y.drop (k + 1) ++ S))[a + k + 1]? = some y := at_1 (by omega)
        have hz0 : 0 + kI.toNat = a + k := by omega
        have hz1 : 0 + kp.toNat = a + k + 1 := by omega
        obtain ⟨vs, hvs⟩ : ∃ vs, vs = P ++ Y.take k ++ y :: x :: (Y.drop (k + 1) ++ S) := ⟨_, rfl⟩
        have hsw := swap_adj' (U := P ++ Y.take k) (V := Y.drop (k + 1) ++ S) (x := x) (y := y) (k := a + k) hp1.symm
        rw [← hvs] at hsw
        refine ⟨⟨[[0,1,2,3,4,5,6,7,8,9,10,11,12,13,14,15,16,17],[0,1,2,3,4,5,6,7,8,10,11,12,13,9,14,15,16,17]], by kernel_rfl, fun F hF => ?_⟩⟩
        have h3 : ∀ es, TRs vs es → F ⟨[(0, .lst 0 n), (10, .int .i64 iI), (13, .int .i64 kI)], [.lst 41 1 es]⟩ := by
          intro es tr_e
          refine hF _ ?_
          clear hF
          cbv
          (try simp only [ncast] at *)
          simp only [e4]
          subst hag
          refine ⟨p - (k + 1), ⟨[(0, .lst 0 n), (10, .int .i64 iI), (13, .int .i64 kp)], [.lst 41 1 es]⟩, by omega, ?_, kp, k + 1, es, by omega, by omega, ?_, rfl, rfl⟩
          · subst hA
            exact Sc [0] (by repeat' (first | exact trivial | exact fun _ => rfl | exact fun h => absurd h (by simp) | exact subC_ints rfl | exact subC_tr tr_e rfl | exact subC_trv tr_e rfl rfl | refine And.intro ?_ ?_ | rfl | (simp [subH_nil, hLts, hLt, renCk, renC, sg, Ck.cells, R_ints_ren, R_ints_hLts]; done)))
          · rw [hvs] at tr_e; rw [htk1]; simpa using tr_e
        clear hF
        cbv
        (try simp only [ncast] at *)
        (try simp only [e4])
        refine ⟨?_, ?_, trivial⟩
        · refine tr_u.rd hA (by omega) (by omega) fun y2 d2 hy2 hd2 => ?_
          rw [hz1, g1] at hy2
          obtain rfl := Option.some.inj hy2
          cbv
          (try simp only [ncast] at *)
          (try simp only [e4])
          refine tr_u.rd hA (by omega) (by omega) fun x2 c2 hx2 hc2 => ?_
          rw [hz0, g0] at hx2
          obtain rfl := Option.some.inj hx2
          cbv
          (try simp only [ncast] at *)
          (try simp only [e4])
          refine tr_u.wr hA hd2 (by omega) (by omega) fun u1 f1 hu1 tr_1 => ?_
          cbv
          (try simp only [ncast] at *)
          (try simp only [e4])
          have hul1 : u1.length = n := by rw [hu1, List.length_set]; exact hall
          refine tr_1.wr hA hc2 (by omega) (by omega) fun u2 f2 hu2 tr_2 => ?_
          cbv
          (try simp only [ncast] at *)
          (try simp only [e4])
          rw [hz0] at hu1
          rw [hz1] at hu2
          have he : u2 = vs := by rw [hu2, hu1]; exact hsw
          rw [he] at tr_2
          have h4 := h3 _ tr_2
          subst hA hag
          refine ⟨0, _, Nat.zero_lt_one, ?_, h4⟩
          exact Sc [0] (by repeat' (first | exact trivial | exact fun _ => rfl | exact fun h => absurd h (by simp) | exact subC_ints rfl | exact subC_tr tr_2 rfl | exact subC_trv tr_2 rfl rfl | refine And.intro ?_ ?_ | rfl | (simp [subH_nil, hLts, hLt, renCk, renC, sg, Ck.cells, R_ints_ren, R_ints_hLts]; done)))
        · have hin : A.inr kp n := by rw [inrA hA]; omega
          refine ⟨hin, ?_⟩
          refine tr_u.rd hA (by omega) (by omega) fun x2 c2 hx2 hc2 => ?_
          rw [hz0, g0] at hx2
          obtain rfl := Option.some.inj hx2
          cbv
          (try simp only [ncast] at *)
          (try simp only [e4])
          refine (tr_u.rd hA (i := kp) (n := n) (by omega) (by omega) fun y2 d2 hy2 hd2 => ?_).2
          rw [hz1, g1] at hy2
          obtain rfl := Option.some.inj hy2
          cbv
          (try simp only [ncast] at *)
          (try simp only [e4])
          refine tr_u.wr hA hd2 (by omega) (by omega) fun u1 f1 hu1 tr_1 => ?_
          cbv
          (try simp only [ncast] at *)
          (try simp only [e4])
          have hul1 : u1.length = n := by rw [hu1, List.length_set]; exact hall
          refine tr_1.wr hA hc2 (by omega) (by omega) fun u2 f2 hu2 tr_2 => ?_
          cbv
          (try simp only [ncast] at *)
          (try simp only [e4])
          rw [hz0] at hu1
          rw [hz1] at hu2
          have he : u2 = vs := by rw [hu2, hu1]; exact hsw
          rw [he] at tr_2
          have h4 := h3 _ tr_2
          subst hA hag
          refine ⟨0, _, Nat.zero_lt_one, ?_, h4⟩
          exact Sc [0] (by repeat' (first | exact trivial | exact fun _ => rfl | exact fun h => absurd h (by simp) | exact subC_ints rfl | exact subC_tr tr_2 rfl | exact subC_trv tr_2 rfl rfl | refine And.intro ?_ ?_ | rfl | (simp [subH_nil, hLts, hLt, renCk, renC, sg, Ck.cells, R_ints_ren, R_ints_hLts]; done)))
      · have hge2 := h
        (try simp only [wA hA] at hge2)
        (try rw [h]); clear h
        cbv
        (try simp only [ncast] at *)
        have hres : ∃ k', k' = p ∧ TRs (P ++ Y.take k' ++ x :: (Y.drop k' ++ S)) ds := by
          rcases Nat.lt_or_ge k p with h9 | h9
          · exfalso; omega
          · exact ⟨k, by omega, tr_u⟩
        obtain ⟨k', rfl, tr_v⟩ := hres
        have hM := one_left hsR (fun u hu => hLR x (by simp) u hu) hqR hS
        refine hf _ (SymF_of (M := Y.take k' ++ x :: Y.drop k') ?_ hM (by simpa using tr_v))
        refine perm_mid.trans ?_
        rw [List.take_append_drop]
        exact List.Perm.refl _
  · have hone := h
    (try simp only [wA hA] at hone)
    (try rw [h]); clear h
    cbv
    (try simp only [ncast] at *)
    exact (xX.eq_def A C Kp E (ag 1) (L 1) tt 220 _ _ yy _ _).mp (hgo _ rfl)

theorem s_sym_step (K : Nat) (ih : SymSpec K) : SymSpec (K + 1) := by
  intro P X Y S n a m b aI mI bI cs hK tr_h hn hl ha hm hb ha' hm' hb' hL1 hR1 hsL hsR hLR
  refine Spec_of_Prt (D := symD) (ks := symKs) (N := 220) tok mixed (fn := f37) rfl rfl (by kernel_rfl) (by kernel_rfl) rfl (rs := []) rfl (Nat.le_of_ble_eq_true rfl) fun A C Kp E ag L fi hA hC hK' hE hag hL hfi => ?_
  exact p_sym0 K ih ⟨hA, hC, hE, hag, hL⟩ P X Y S n a m b aI mI bI cs fi (fun s h => by rw [hfi]; exact h) hK tr_h hn hl ha hm hb ha' hm' hb' hL1 hR1 hsL hsR hLR
theorem s_sym : ∀ K, SymSpec K
  | 0 => fun P X Y S n a m b aI mI bI cs hK tr_h hn hl ha hm hb ha' hm' hb' hL1 hR1 hsL hsR hLR => by omega
  | K + 1 => s_sym_step K (s_sym K)
end Go.Sx

/- limit: sorting, stable. -/
set_option maxRecDepth 100000
set_option maxHeartbeats 8000000
set_option linter.unusedVariables false
set_option linter.unusedSimpArgs false
namespace Go.Sx
open Go.Proofs.Try

section
variable {A : Ar} {C : CallT} {s : St} {κ : List Nat → SV → List Ck → Prop}
theorem call_insertion (hC : C = CallX prog) {P X S : List Tr} {hb n a b : Nat} {aI bI : Int} {cs : List SV} (tr_h : TRs (P ++ X ++ S) cs) (hn : n = (P ++ X ++ S).length) (hl : (P ++ X ++ S).length ≤ 1000000) (ha : aI = a) (hb1 : bI = b)
    (ha' : a = P.length) (hb' : b = a + X.length) (hasc : Asc X)
    (h4 : s.H[hb]? = some (.lst 41 1 cs)) (hk : ∀ X' ds, X'.Perm X → Srt X' → TRs (P ++ X' ++ S) ds → κ [hb] (.tup []) (s.H.set hb (.lst 41 1 ds))) :
    C 36 [.lst hb n, .int .i64 aI, .int .i64 bI, cmpV] s κ := by
  refine cal_of hC (s_insertion P X S n a b aI bI cs tr_h hn hl ha hb1 ha' hb' hasc) [(hb, 0, true)] ⟨by simp, trivial⟩ ⟨rfl, tr_h.hLts _, tr_h.zOks _, ?_, trivial⟩
    ⟨⟨(show 0 < 1 by omega), rfl, rfl⟩, ⟨trivial, trivial, rfl⟩, ⟨trivial, trivial, rfl⟩, ⟨trivial, trivial, rfl⟩, trivial⟩ ?_
  · show _ = some (Ck.lst _ _ (cs.map _))
    rw [tr_h.ren]; exact h4
  rintro _ _ ⟨rfl, X', ds, hX, hS, tr_u, rfl⟩
  refine ⟨_, _, _, rfl, rfl, ?_, hk X' ds hX hS tr_u⟩
  simp only [backH, setAll, List.map_cons, List.map_nil, renCk, tr_u.ren, List.drop_succ_cons, List.drop_nil, List.append_nil, List.length_cons, List.length_nil]
end

/-- Stretches of one size, the last one maybe less. -/
def Bks (k : Nat) : List (List Tr) → Prop
  | [] => True
  | [b] => 1 ≤ b.length ∧ b.length ≤ k
  | b :: c :: r => b.length = k ∧ Bks k (c :: r)
/-- Each in order, all of one ahead of those of the next. -/
structure Brs (bl : List (List Tr)) : Prop where
  srt : ∀ b ∈ bl, Srt b
  ord : bl.Pairwise fun b c => ∀ t ∈ b, ∀ u ∈ c, t.s < u.s
theorem Bks.pos {k : Nat} (hk : 1 ≤ k) : ∀ {bl : List (List Tr)}, Bks k bl → ∀ b ∈ bl, 1 ≤ b.length ∧ b.length ≤ k
  | [b], h, c, hc => by
    obtain rfl := List.mem_singleton.1 hc
    exact h
  | b :: c :: r, h, d, hd => by
    rcases List.mem_cons.1 hd with rfl | hd
    · exact ⟨by rw [h.1]; exact hk, by rw [h.1]; exact Nat.le_refl _⟩
    · exact Bks.pos hk h.2 d hd
/-- Two whole ones stand ahead. -/
theorem Bks.two {k : Nat} (hk : 1 ≤ k) {bl : List (List Tr)} (h : Bks k bl) (hl : 2 * k ≤ bl.flatten.length) : ∃ b c r, bl = b :: c :: r ∧ b.length = k ∧ c.length = k ∧ Bks k r := by
  match bl, h with
  | [], _ => simp at hl; omega
  | [b], h => simp at hl; have := h.2; omega
  | [b, c], h =>
    simp at hl
    have h1 := h.1
    have h2 : 1 ≤ c.length ∧ c.length ≤ k := h.2
    exact ⟨b, c, [], rfl, h1, by omega, trivial⟩
  | b :: c :: d :: r, h => exact ⟨b, c, d :: r, rfl, h.1, h.2.1, h.2.2⟩
/-- A whole one and a lesser one are left. -/
theorem Bks.rest {k : Nat} (hk : 1 ≤ k) {bl : List (List Tr)} (h : Bks k bl) (hl : k < bl.flatten.length) (hu : bl.flatten.length < 2 * k) : ∃ b c, bl = [b, c] ∧ b.length = k ∧ 1 ≤ c.length ∧ c.length < k := by
  match bl, h with
  | [], _ => simp at hl
  | [b], h => simp at hl; have := h.2; omega
  | [b, c], h =>
    simp at hu
    have h1 := h.1
    have h2 : 1 ≤ c.length ∧ c.length ≤ k := h.2
    exact ⟨b, c, rfl, h1, h2.1, by omega⟩
  | b :: c :: d :: r, h =>
    simp only [List.flatten_cons, List.length_append] at hu
    have h1 := h.1
    have h2 := h.2.1
    omega
/-- At most one. -/
theorem Bks.one {k : Nat} (hk : 1 ≤ k) {bl : List (List Tr)} (h : Bks k bl) (hl : bl.flatten.length ≤ k) : bl = [] ∨ ∃ b, bl = [b] := by
  match bl, h with
  | [], _ => exact .inl rfl
  | [b], _ => exact .inr ⟨b, rfl⟩
  | b :: c :: r, h =>
    have h3 := Bks.pos hk h.2 c (List.mem_cons_self ..)
    have h1 := h.1
    simp only [List.flatten_cons, List.length_append] at hl
    omega
theorem Bks.snoc {k : Nat} {b : List Tr} (hb : 1 ≤ b.length ∧ b.length ≤ k) : ∀ {bl : List (List Tr)}, (∀ c ∈ bl, c.length = k) → Bks k (bl ++ [b])
  | [], _ => hb
  | [c], h => ⟨h c (by simp), hb⟩
  | c :: d :: r, h => ⟨h c (by simp), Bks.snoc (bl := d :: r) hb fun e he => h e (List.mem_cons_of_mem _ he)⟩
theorem Bks.full {k : Nat} (hk : 1 ≤ k) : ∀ {bl : List (List Tr)}, (∀ c ∈ bl, c.length = k) → Bks k bl
  | [], _ => trivial
  | [c], h => by have := h c (by simp); exact ⟨by omega, by omega⟩
  | c :: d :: r, h => ⟨h c (by simp), Bks.full hk (bl := d :: r) fun e he => h e (List.mem_cons_of_mem _ he)⟩
/-- Two neighbours put together. -/
theorem Brs.join {D r : List (List Tr)} {b c M : List Tr} (h : Brs (D ++ b :: c :: r)) (hM : M.Perm (b ++ c)) (hS : Srt M) : Brs (D ++ M :: r) := by
  obtain ⟨h1, h2⟩ := h
  refine ⟨fun x hx => ?_, ?_⟩
  · rcases List.mem_append.1 hx with hx | hx
    · exact h1 x (by simp [hx])
    · rcases List.mem_cons.1 hx with rfl | hx
      · exact hS
      · exact h1 x (by simp [hx])
  · rw [List.pairwise_append, List.pairwise_cons, List.pairwise_cons] at h2
    rw [List.pairwise_append, List.pairwise_cons]
    obtain ⟨k1, ⟨k2, k3, k4⟩, k5⟩ := h2
    refine ⟨k1, ⟨fun x hx t ht u hu => ?_, k4⟩, fun x hx y hy t ht u hu => ?_⟩
    · rcases List.mem_append.1 (hM.mem_iff.1 ht) with ht | ht
      · exact k2 x (by simp [hx]) t ht u hu
      · exact k3 x hx t ht u hu
    · rcases List.mem_cons.1 hy with rfl | hy
      · rcases List.mem_append.1 (hM.mem_iff.1 hu) with hu | hu
        · exact k5 x hx b (by simp) t ht u hu
        · exact k5 x hx c (by simp) t ht u hu
      · exact k5 x hx y (by simp [hy]) t ht u hu
theorem Brs.pair {D r : List (List Tr)} {b c : List Tr} (h : Brs (D ++ b :: c :: r)) : Srt b ∧ Srt c ∧ ∀ t ∈ b, ∀ u ∈ c, t.s < u.s := by
  obtain ⟨h1, h2⟩ := h
  rw [List.pairwise_append, List.pairwise_cons] at h2
  exact ⟨h1 b (by simp), h1 c (by simp), h2.2.1.1 c (by simp)⟩
theorem perm_join {D r : List (List Tr)} {b c M : List Tr} (hM : M.Perm (b ++ c)) : (D ++ M :: r).flatten.Perm (D ++ b :: c :: r).flatten := by
  simp only [List.flatten_append, List.flatten_cons]
  refine List.Perm.append_left _ ?_
  rw [← List.append_assoc]
  exact hM.append_right _

theorem s_stable (ts : List Tr) (n : Nat) (nI : Int) (cs : List SV) (tr_h : TRs ts cs) (hn : n = ts.length) (hl : ts.length ≤ 1000000) (hnI : nI = n) (hasc : Asc ts) :
    Spec prog 34 [.lst 0 n, .int .i64 nI, cmpV] [.lst 41 1 cs] (fun r H => r = .tup [] ∧ ∃ us ds, us.Perm ts ∧ Srt us ∧ TRs us ds ∧ H = [.lst 41 1 ds]) := by
  refine Spec_of_kF (D := fun i => (0, [])) (ks := [0, 1, 2, 6, 7, 8, 9]) tok mixed (fn := f34) rfl rfl rfl (by kernel_rfl) (N := 63) rfl (rs := []) rfl (Nat.le_of_ble_eq_true rfl) fun A C Kp E ag L q hA hC hK hE hag hL hq => ?_
  cbv
  (try simp only [ncast] at *)
  rw [hL]
  refine ⟨fun kk s => ∃ (aI bI : Int) (D : List (List Tr)) (a : Nat) (ds : List SV), aI = a ∧ bI = (a : Int) + 20 ∧ a = D.flatten.length ∧ a ≤ n ∧ (∀ b ∈ D, b.length = 20) ∧ Brs D ∧ D.flatten.Perm (ts.take a) ∧ TRs (D.flatten ++ ts.drop a) ds ∧ kk = n - a ∧
      s = ⟨[(0, .lst 0 n), (1, .int .i64 nI), (2, cmpV), (6, .int .i64 20), (7, .int .i64 aI), (8, .int .i64 bI)], [.lst 41 1 ds]⟩,
    ⟨n, ⟨[(0, .lst 0 n), (1, .int .i64 nI), (2, cmpV), (6, .int .i64 20), (7, .int .i64 0), (8, .int .i64 20)], [.lst 41 1 cs]⟩, ?_, 0, 20, [], 0, cs, rfl, rfl, rfl, by omega, by simp, ⟨by simp, List.Pairwise.nil⟩, by simp, by simpa using tr_h, rfl, rfl⟩, ?_⟩
  · subst hA
    exact Sc [0] (by repeat' (first | exact trivial | exact fun _ => rfl | exact fun h => absurd h (by simp) | exact subC_ints rfl | exact subC_tr tr_h rfl | exact subC_trv tr_h rfl rfl | refine And.intro ?_ ?_ | rfl | (simp [subH_nil, hLts, hLt, renCk, renC, sg, Ck.cells, R_ints_ren, R_ints_hLts]; done)))
  clear tr_h
  rintro kk _ ⟨aI, bI, D, a, ds, ha, hb, haD, han, hD, hB, hp, tr_u, hkk, rfl⟩
  have hlow : ∀ t ∈ D.flatten, ∀ u ∈ ts.drop a, t.s < u.s := by
    have h0 : Asc (ts.take a ++ ts.drop a) := by rw [List.take_append_drop]; exact hasc
    exact fun t ht u hu => (List.pairwise_append.1 h0).2.2 t (hp.mem_iff.1 ht) u hu
  have hdl : (ts.drop a).length = n - a := by rw [List.length_drop, hn]
  have hsp : ts.drop a = (ts.drop a).take 20 ++ (ts.drop a).drop 20 := (List.take_append_drop _ _).symm
  have hascd : Asc (ts.drop a) := List.Pairwise.sublist (List.drop_sublist _ _) hasc
  cbv
  (try simp only [ncast] at *)
  refine ifB_intro (fun h => ?_) (fun h => ?_)
  · have hle := h
    (try simp only [wA hA] at hle)
    (try rw [h]); clear h
    cbv
    (try simp only [ncast] at *)
    have hX : ((ts.drop a).take 20).length = 20 := by rw [List.length_take, hdl]; omega
    have tr_v : TRs (D.flatten ++ (ts.drop a).take 20 ++ (ts.drop a).drop 20) ds := by rw [List.append_assoc, ← hsp]; exact tr_u
    have hall : (D.flatten ++ (ts.drop a).take 20 ++ (ts.drop a).drop 20).length = n := by rw [List.append_assoc, ← hsp, List.length_append, hdl]; omega
    have ea : A.bin .add .i64 bI 20 = bI + 20 := by rw [addA hA, wrap64 (by omega)]
    refine call_insertion hC (a := a) (b := a + 20) tr_v hall.symm (by omega) ha (by omega) haD (by omega) (List.Pairwise.sublist (List.take_sublist _ _) hascd) rfl fun X' es hX' hS' tr_e => ?_
    cbv
    (try simp only [ncast] at *)
    simp only [ea]
    subst hA hag
    have hXl : X'.length = 20 := by rw [hX'.length_eq]; exact hX
    refine ⟨n - (a + 20), ⟨[(0, .lst 0 n), (1, .int .i64 nI), (2, cmpV), (6, .int .i64 20), (7, .int .i64 bI), (8, .int .i64 (bI + 20))], [.lst 41 1 es]⟩, by omega, ?_, bI, bI + 20, D ++ [X'], a + 20, es, by omega, by omega, ?_, by omega, ?_, ?_, ?_, ?_, rfl, rfl⟩
    · exact Sc [0] (by repeat' (first | exact trivial | exact fun _ => rfl | exact fun h => absurd h (by simp) | exact subC_ints rfl | exact subC_tr tr_e rfl | exact subC_trv tr_e rfl rfl | refine And.intro ?_ ?_ | rfl | (simp [subH_nil, hLts, hLt, renCk, renC, sg, Ck.cells, R_ints_ren, R_ints_hLts]; done)))
    · simp only [List.flatten_append, List.length_append, List.flatten_cons, List.flatten_nil, List.append_nil]; omega
    · intro b hb
      rcases List.mem_append.1 hb with hb | hb
      · exact hD b hb
      · obtain rfl := List.mem_singleton.1 hb
        exact hXl
    · refine ⟨fun b hb => ?_, ?_⟩
      · rcases List.mem_append.1 hb with hb | hb
        · exact hB.srt b hb
        · obtain rfl := List.mem_singleton.1 hb
          exact hS'
      · rw [List.pairwise_append]
        refine ⟨hB.ord, List.pairwise_singleton _ _, fun b hb c hc t ht u hu => ?_⟩
        obtain rfl := List.mem_singleton.1 hc
        exact hlow t (List.mem_flatten.2 ⟨b, hb, ht⟩) u (List.mem_of_mem_take (hX'.mem_iff.1 hu))
    · rw [List.flatten_append, List.take_add]
      simp only [List.flatten_cons, List.flatten_nil, List.append_nil]
      exact hp.append hX'
    · rw [List.flatten_append, show a + 20 = a + 20 from rfl, ← List.drop_drop]
      simpa using tr_e
  · have hgt := h
    (try simp only [wA hA] at hgt)
    (try rw [h]); clear h
    cbv
    (try simp only [ncast] at *)
    have tr_v : TRs (D.flatten ++ ts.drop a ++ []) ds := by rw [List.append_nil]; exact tr_u
    refine call_insertion hC (a := a) (b := n) tr_v (by simp only [List.length_append, List.length_nil]; omega) (by simp only [List.length_append, List.length_nil]; omega) ha (by omega) haD (by omega) hascd rfl fun X' es hX' hS' tr_e => ?_
    rw [List.append_nil] at tr_e
    -- all stretches
    have hXl : X'.length = n - a := by rw [hX'.length_eq]; exact hdl
    obtain ⟨bl, hbl, hbs, hbp⟩ : ∃ bl, bl.flatten = D.flatten ++ X' ∧ Bks 20 bl ∧ Brs bl := by
      by_cases h0 : X' = []
      · exact ⟨D, by rw [h0, List.append_nil], Bks.full (by omega) hD, hB⟩
      · have h1 := List.length_pos_iff.2 h0
        refine ⟨D ++ [X'], by simp, Bks.snoc ⟨by omega, by omega⟩ hD, fun b hb => ?_, ?_⟩
        · rcases List.mem_append.1 hb with hb | hb
          · exact hB.srt b hb
          · obtain rfl := List.mem_singleton.1 hb
            exact hS'
        · rw [List.pairwise_append]
          refine ⟨hB.ord, List.pairwise_singleton _ _, fun b hb c hc t ht u hu => ?_⟩
          obtain rfl := List.mem_singleton.1 hc
          exact hlow t (List.mem_flatten.2 ⟨b, hb, ht⟩) u (hX'.mem_iff.1 hu)
    have hpm : bl.flatten.Perm ts := by
      rw [hbl]
      have := hp.append hX'
      rwa [List.take_append_drop] at this
    rw [← hbl] at tr_e
    clear tr_v tr_u hlow hD hB hp haD hbl hXl hS' hX' hsp hascd hdl hgt
    cbv
    (try simp only [ncast] at *)
    refine ⟨fun kk s => ∃ (kI : Int) (k : Nat) (bl : List (List Tr)) (ds : List SV), kI = k ∧ 1 ≤ k ∧ k ≤ 2 * n + 20 ∧ Bks k bl ∧ Brs bl ∧ bl.flatten.Perm ts ∧ TRs bl.flatten ds ∧ kk = 2 * n + 20 - k ∧
        s = ⟨[(0, .lst 0 n), (1, .int .i64 nI), (2, cmpV), (6, .int .i64 kI)], [.lst 41 1 ds]⟩,
      ⟨2 * n, ⟨[(0, .lst 0 n), (1, .int .i64 nI), (2, cmpV), (6, .int .i64 20)], [.lst 41 1 es]⟩, ?_, 20, 20, bl, es, rfl, by omega, by omega, hbs, hbp, hpm, tr_e, by omega, rfl⟩, ?_⟩
    · subst hA
      exact Sc [0] (by repeat' (first | exact trivial | exact fun _ => rfl | exact fun h => absurd h (by simp) | exact subC_ints rfl | exact subC_tr tr_e rfl | exact subC_trv tr_e rfl rfl | refine And.intro ?_ ?_ | rfl | (simp [subH_nil, hLts, hLt, renCk, renC, sg, Ck.cells, R_ints_ren, R_ints_hLts]; done)))
    clear tr_e hbs hbp hpm bl es
    rintro k1 _ ⟨kI, k, bl, es, hkI, hk1, hkn, hbs, hbp, hpm, tr_e, hkk1, rfl⟩
    have hfl : bl.flatten.length = n := by rw [hpm.length_eq, hn]
    cbv
    (try simp only [ncast] at *)
    refine ifB_intro (fun h => ?_) (fun h => ?_)
    · have hlt := h
      (try simp only [wA hA] at hlt)
      (try rw [h]); clear h
      cbv
      (try simp only [ncast] at *)
      have e2 : A.bin .mul .i64 2 kI = 2 * kI := by rw [mulA hA, wrap64 (by omega)]
      have e2' : A.bin .mul .i64 kI 2 = 2 * kI := by rw [mulA hA, wrap64 (by omega)]; omega
      obtain ⟨k2, hk2⟩ : ∃ z, z = 2 * kI := ⟨_, rfl⟩
      rw [← hk2] at e2 e2'
      simp only [e2]
      refine ⟨fun kk s => ∃ (aI bI : Int) (D Rr : List (List Tr)) (ds : List SV), aI = (D.flatten.length : Nat) ∧ bI = aI + k2 ∧ (∀ b ∈ D, b.length = 2 * k) ∧ Bks k Rr ∧ Brs (D ++ Rr) ∧ (D ++ Rr).flatten.Perm ts ∧ TRs (D ++ Rr).flatten ds ∧ kk = Rr.flatten.length ∧
          s = ⟨[(0, .lst 0 n), (1, .int .i64 nI), (2, cmpV), (6, .int .i64 kI), (7, .int .i64 aI), (8, .int .i64 bI)], [.lst 41 1 ds]⟩,
        ⟨bl.flatten.length, ⟨[(0, .lst 0 n), (1, .int .i64 nI), (2, cmpV), (6, .int .i64 kI), (7, .int .i64 0), (8, .int .i64 k2)], [.lst 41 1 es]⟩, ?_, 0, k2, [], bl, es, rfl, by omega, by simp, hbs, hbp, hpm, tr_e, rfl, rfl⟩, ?_⟩
      · subst hA
        exact Sc [0] (by repeat' (first | exact trivial | exact fun _ => rfl | exact fun h => absurd h (by simp) | exact subC_ints rfl | exact subC_tr tr_e rfl | exact subC_trv tr_e rfl rfl | refine And.intro ?_ ?_ | rfl | (simp [subH_nil, hLts, hLt, renCk, renC, sg, Ck.cells, R_ints_ren, R_ints_hLts]; done)))
      clear tr_e hbs hbp hpm hfl bl es
      rintro k3 _ ⟨aI, bI, D, Rr, es, ha2, hb2, hD, hbs, hbp, hpm, tr_e, hk3, rfl⟩
      have hfl : (D ++ Rr).flatten.length = n := by rw [hpm.length_eq, hn]
      have hfl2 : D.flatten.length + Rr.flatten.length = n := by rw [← hfl]; simp
      have ea : A.bin .add .i64 aI kI = aI + kI := by rw [addA hA, wrap64 (by omega)]
      obtain ⟨ak, hak⟩ : ∃ z, z = aI + kI := ⟨_, rfl⟩
      rw [← hak] at ea
      have eb : A.bin .add .i64 bI k2 = bI + k2 := by rw [addA hA, wrap64 (by omega)]
      cbv
      (try simp only [ncast] at *)
      refine ifB_intro (fun h => ?_) (fun h => ?_)
      · have hle := h
        (try simp only [wA hA] at hle)
        (try rw [h]); clear h
        cbv
        (try simp only [ncast] at *)
        obtain ⟨b, c, r, rfl, hbl, hcl, hr⟩ := hbs.two hk1 (by omega)
        obtain ⟨q1, q2, q3⟩ := hbp.pair
        have tr_0 : TRs (D.flatten ++ b ++ c ++ r.flatten) es := by simpa using tr_e
        have hln : (D.flatten ++ b ++ c ++ r.flatten).length = n := by rw [← hfl]; simp only [List.flatten_append, List.length_append, List.flatten_cons, List.append_assoc]
        simp only [ea]
        refine call_sym hC (s_sym _) (a := D.flatten.length) (m := D.flatten.length + b.length) (b := D.flatten.length + b.length + c.length) (Nat.le_refl _) tr_0 hln.symm (by omega) ha2 (by omega) (by omega) rfl rfl rfl (by omega) (by omega) q1 q2 q3 rfl fun M fs hM hS tr_f => ?_
        cbv
        (try simp only [ncast] at *)
        (try simp only [e2, eb])
        have hMl : M.length = 2 * k := by rw [hM.length_eq, List.length_append]; omega
        subst hA hag
        refine ⟨r.flatten.length, ⟨[(0, .lst 0 n), (1, .int .i64 nI), (2, cmpV), (6, .int .i64 kI), (7, .int .i64 bI), (8, .int .i64 (bI + k2))], [.lst 41 1 fs]⟩, ?_, ?_, bI, bI + k2, D ++ [M], r, fs, ?_, rfl, ?_, hr, ?_, ?_, ?_, rfl, rfl⟩
        · rw [hk3]; simp; omega
        · exact Sc [0] (by repeat' (first | exact trivial | exact fun _ => rfl | exact fun h => absurd h (by simp) | exact subC_ints rfl | exact subC_tr tr_f rfl | exact subC_trv tr_f rfl rfl | refine And.intro ?_ ?_ | rfl | (simp [subH_nil, hLts, hLt, renCk, renC, sg, Ck.cells, R_ints_ren, R_ints_hLts]; done)))
        · simp only [List.flatten_append, List.flatten_cons, List.flatten_nil, List.append_nil, List.length_append]; omega
        · intro x hx
          rcases List.mem_append.1 hx with hx | hx
          · exact hD x hx
          · obtain rfl := List.mem_singleton.1 hx
            exact hMl
        · have := hbp.join hM hS
          simpa using this
        · have := (perm_join (D := D) (r := r) hM).trans hpm
          simpa using this
        · simpa using tr_f
      · have hgt := h
        (try simp only [wA hA] at hgt)
        (try rw [h]); clear h
        cbv
        (try simp only [ncast] at *)
        simp only [ea]
        refine ifB_intro (fun h => ?_) (fun h => ?_)
        · have hm := h
          (try simp only [wA hA] at hm)
          (try rw [h]); clear h
          cbv
          (try simp only [ncast] at *)
          obtain ⟨b, c, rfl, hbl, hc1, hc2⟩ := hbs.rest hk1 (by omega) (by omega)
          obtain ⟨q1, q2, q3⟩ := hbp.pair
          have tr_0 : TRs (D.flatten ++ b ++ c ++ []) es := by simpa using tr_e
          have hbc : [b, c].flatten.length = b.length + c.length := by simp
          have hln : (D.flatten ++ b ++ c ++ ([] : List Tr)).length = n := by rw [← hfl2]; simp
          refine call_sym hC (s_sym _) (a := D.flatten.length) (m := D.flatten.length + b.length) (b := D.flatten.length + b.length + c.length) (Nat.le_refl _) tr_0 hln.symm (by omega) ha2 (by omega) (by omega) rfl rfl rfl (by omega) (by omega) q1 q2 q3 rfl fun M fs hM hS tr_f => ?_
          cbv
          (try simp only [ncast] at *)
          have hMl : M.length = b.length + c.length := by rw [hM.length_eq, List.length_append]
          have g1 : Bks (2 * k) (D ++ [M]) := Bks.snoc ⟨by omega, by omega⟩ hD
          have g2 : Brs (D ++ [M]) := hbp.join hM hS
          have g3 : (D ++ [M]).flatten.Perm ts := (perm_join (D := D) (r := []) hM).trans hpm
          have tr_g : TRs (D ++ [M]).flatten fs := by simpa using tr_f
          (try simp only [e2'])
          subst hA hag
          refine ⟨2 * n + 20 - 2 * k, ⟨[(0, .lst 0 n), (1, .int .i64 nI), (2, cmpV), (6, .int .i64 k2)], [.lst 41 1 fs]⟩, by omega, ?_, k2, 2 * k, (D ++ [M]), fs, by omega, by omega, by omega, g1, g2, g3, tr_g, rfl, rfl⟩
          exact Sc [0] (by repeat' (first | exact trivial | exact fun _ => rfl | exact fun h => absurd h (by simp) | exact subC_ints rfl | exact subC_tr tr_g rfl | exact subC_trv tr_g rfl rfl | refine And.intro ?_ ?_ | rfl | (simp [subH_nil, hLts, hLt, renCk, renC, sg, Ck.cells, R_ints_ren, R_ints_hLts]; done)))
        · have hm := h
          (try simp only [wA hA] at hm)
          (try rw [h]); clear h
          cbv
          (try simp only [ncast] at *)
          have g1 : Bks (2 * k) (D ++ Rr) := by
            rcases hbs.one hk1 (by omega) with rfl | ⟨b, rfl⟩
            · rw [List.append_nil]; exact Bks.full (by omega) hD
            · have h3 : 1 ≤ b.length ∧ b.length ≤ k := hbs
              exact Bks.snoc ⟨h3.1, by omega⟩ hD
          (try simp only [e2'])
          subst hA hag
          refine ⟨2 * n + 20 - 2 * k, ⟨[(0, .lst 0 n), (1, .int .i64 nI), (2, cmpV), (6, .int .i64 k2)], [.lst 41 1 es]⟩, by omega, ?_, k2, 2 * k, (D ++ Rr), es, by omega, by omega, by omega, g1, hbp, hpm, tr_e, rfl, rfl⟩
          exact Sc [0] (by repeat' (first | exact trivial | exact fun _ => rfl | exact fun h => absurd h (by simp) | exact subC_ints rfl | exact subC_tr tr_e rfl | exact subC_trv tr_e rfl rfl | refine And.intro ?_ ?_ | rfl | (simp [subH_nil, hLts, hLt, renCk, renC, sg, Ck.cells, R_ints_ren, R_ints_hLts]; done)))
    · have hge := h
      (try simp only [wA hA] at hge)
      (try rw [h]); clear h
      cbv
      (try simp only [ncast] at *)
      have hs : Srt bl.flatten := by
        rcases hbs.one hk1 (by omega) with rfl | ⟨b, rfl⟩
        · exact List.Pairwise.nil
        · have := hbp.srt b (by simp)
          simpa using this
      subst hA hq
      refine Fin_of ⟨[], [.lst 41 1 es]⟩ ?_ ⟨rfl, bl.flatten, es, hpm, hs, tr_e, rfl⟩
      exact Sc [0] (by repeat' (first | exact trivial | exact fun _ => rfl | exact fun h => absurd h (by simp) | exact subC_ints rfl | exact subC_tr tr_e rfl | exact subC_trv tr_e rfl rfl | refine And.intro ?_ ?_ | rfl | (simp [subH_nil, hLts, hLt, renCk, renC, sg, Ck.cells, R_ints_ren, R_ints_hLts]; done)))
end Go.Sx

/- limit: coins. -/
set_option maxRecDepth 100000
set_option maxHeartbeats 8000000
set_option linter.unusedVariables false
set_option linter.unusedSimpArgs false
namespace Go.Sx
open Go.Proofs.Try

section
variable {A : Ar} {C : CallT} {s : St} {κ : List Nat → SV → List Ck → Prop}
theorem call_stable (hC : C = CallX prog) {ts : List Tr} {hb n : Nat} {nI : Int} {cs : List SV} (tr_h : TRs ts cs) (hn : n = ts.length) (hl : ts.length ≤ 1000000) (hnI : nI = n) (hasc : Asc ts)
    (h4 : s.H[hb]? = some (.lst 41 1 cs)) (hk : ∀ us ds, us.Perm ts → Srt us → TRs us ds → κ [hb] (.tup []) (s.H.set hb (.lst 41 1 ds))) :
    C 34 [.lst hb n, .int .i64 nI, cmpV] s κ := by
  refine cal_of hC (s_stable ts n nI cs tr_h hn hl hnI hasc) [(hb, 0, true)] ⟨by simp, trivial⟩ ⟨rfl, tr_h.hLts _, tr_h.zOks _, ?_, trivial⟩
    ⟨⟨(show 0 < 1 by omega), rfl, rfl⟩, ⟨trivial, trivial, rfl⟩, ⟨trivial, trivial, rfl⟩, trivial⟩ ?_
  · show _ = some (Ck.lst _ _ (cs.map _))
    rw [tr_h.ren]; exact h4
  rintro _ _ ⟨rfl, us, ds, hp, hs, tr_u, rfl⟩
  refine ⟨_, _, _, rfl, rfl, ?_, hk us ds hp hs tr_u⟩
  simp only [backH, setAll, List.map_cons, List.map_nil, renCk, tr_u.ren, List.drop_succ_cons, List.drop_nil, List.append_nil, List.length_cons, List.length_nil]
end
theorem s_sort (ts : List Tr) (n : Nat) (cs : List SV) (tr_h : TRs ts cs) (hn : n = ts.length) (hl : ts.length ≤ 1000000) (hasc : Asc ts) :
    Spec prog 30 [.lst 0 n, cmpV] [.lst 41 1 cs] (fun r H => r = .tup [] ∧ ∃ us ds, us.Perm ts ∧ Srt us ∧ TRs us ds ∧ H = [.lst 41 1 ds]) := by
  refine Spec_of_kX (D := fun i => (0, [])) (ks := [0, 1]) tok mixed (fn := f30) rfl rfl rfl (by kernel_rfl) (N := 9) rfl (rs := []) rfl (Nat.le_of_ble_eq_true rfl) fun A C Kp E ag L q hA hC hK hE hag hL hq => ?_
  obtain ⟨nI, hnI⟩ : ∃ z : Int, z = n := ⟨_, rfl⟩
  have e1 : A.nat n = nI := by rw [natA hA, hnI]
  cbv
  (try simp only [ncast] at *)
  simp only [e1]
  refine call_stable hC tr_h hn hl hnI hasc rfl fun us ds hp hs tr_u => ?_
  cbv
  (try simp only [ncast] at *)
  subst hA hq
  exact ⟨rfl, us, ds, hp, hs, tr_u, rfl⟩
section
variable {A : Ar} {C : CallT} {s : St} {κ : List Nat → SV → List Ck → Prop}
theorem call_sort (hC : C = CallX prog) {ts : List Tr} {hb n : Nat} {cs : List SV} (tr_h : TRs ts cs) (hn : n = ts.length) (hl : ts.length ≤ 1000000) (hasc : Asc ts)
    (h4 : s.H[hb]? = some (.lst 41 1 cs)) (hk : ∀ us ds, us.Perm ts → Srt us → TRs us ds → κ [hb] (.tup []) (s.H.set hb (.lst 41 1 ds))) :
    C 30 [.lst hb n, cmpV] s κ := by
  refine cal_of hC (s_sort ts n cs tr_h hn hl hasc) [(hb, 0, true)] ⟨by simp, trivial⟩ ⟨rfl, tr_h.hLts _, tr_h.zOks _, ?_, trivial⟩
    ⟨⟨(show 0 < 1 by omega), rfl, rfl⟩, ⟨trivial, trivial, rfl⟩, trivial⟩ ?_
  · show _ = some (Ck.lst _ _ (cs.map _))
    rw [tr_h.ren]; exact h4
  rintro _ _ ⟨rfl, us, ds, hp, hs, tr_u, rfl⟩
  refine ⟨_, _, _, rfl, rfl, ?_, hk us ds hp hs tr_u⟩
  simp only [backH, setAll, List.map_cons, List.map_nil, renCk, tr_u.ren, List.drop_succ_cons, List.drop_nil, List.append_nil, List.length_cons, List.length_nil]
end

/-- The coins of symbols that come, from symbol i on, in their order. -/
def lvs : List Int → Nat → List Tr
  | [], _ => []
  | x :: r, i => if 0 < x then .leaf x i :: lvs r (i + 1) else lvs r (i + 1)
theorem lvs_len (f : List Int) (i : Nat) : (lvs f i).length ≤ f.length := by
  induction f generalizing i with
  | nil => simp [lvs]
  | cons x r ih =>
    simp only [lvs]
    have := ih (i + 1)
    split <;> simp <;> omega
theorem lvs_snoc (f : List Int) (x : Int) (i : Nat) : lvs (f ++ [x]) i = lvs f i ++ (if 0 < x then [.leaf x (i + f.length : Nat)] else []) := by
  induction f generalizing i with
  | nil => simp [lvs]
  | cons y r ih =>
    simp only [List.cons_append, lvs, ih, List.length_cons, show i + 1 + r.length = i + (r.length + 1) by omega]
    split <;> simp
theorem lvs_s (f : List Int) (i : Nat) : ∀ t ∈ lvs f i, (i : Int) ≤ t.s := by
  induction f generalizing i with
  | nil => simp [lvs]
  | cons x r ih =>
    intro t ht
    simp only [lvs] at ht
    split at ht
    · rcases List.mem_cons.1 ht with rfl | ht
      · simp [Tr.s]
      · have := ih (i + 1) t ht; omega
    · have := ih (i + 1) t ht; omega
theorem lvs_asc (f : List Int) (i : Nat) : Asc (lvs f i) := by
  induction f generalizing i with
  | nil => exact List.Pairwise.nil
  | cons x r ih =>
    simp only [lvs]
    split
    · refine List.pairwise_cons.2 ⟨fun t ht => ?_, ih _⟩
      have := lvs_s r (i + 1) t ht
      show (i : Int) < t.s
      omega
    · exact ih _

theorem s_coins (f : List Int) (n : Nat) (hn : n = f.length) (hl : f.length ≤ 1000000) :
    Spec prog 22 [.sl 0 0 n false] [.vw (R.ints .i64 f)] (fun r H => ∃ us ds, us.Perm (lvs f 0) ∧ Srt us ∧ TRs us ds ∧ r = .fz 0 us.length ds ∧ H = [.vw (R.ints .i64 f)]) := by
  refine Spec_of_kF (D := fun i => (0, [])) (ks := [0, 2, 3, 4, 5, 6, 7, 8]) tok mixed (fn := f22) rfl rfl rfl (by kernel_rfl) (N := 26) rfl (rs := [.tmp 2]) rfl (Nat.le_of_ble_eq_true rfl) fun A C Kp E ag L q hA hC hK hE hag hL hq => ?_
  rw [← hA]
  obtain ⟨nI, hnI⟩ : ∃ z : Int, z = n := ⟨_, rfl⟩
  have e1 : A.nat n = nI := by rw [natA hA, hnI]
  cbv
  (try simp only [ncast] at *)
  simp only [e1]
  rw [hL]
  refine ⟨fun kk s => ∃ (i : Int) (j k : Nat) (us : List Tr) (cs : List SV), i = j ∧ j ≤ f.length ∧ us = lvs (f.take j) 0 ∧ k = us.length ∧ TRs us cs ∧ kk = f.length - j ∧ s = ⟨[(0, .sl 0 0 n false), (3, .lst 1 k), (6, .sl 0 0 n false), (7, .int .i64 nI), (8, .int .i64 i)], [.vw (A.ints .i64 f), .lst 41 1 cs]⟩,
    ⟨f.length, ⟨[(0, .sl 0 0 n false), (3, .lst 1 0), (6, .sl 0 0 n false), (7, .int .i64 nI), (8, .int .i64 0)], [.vw (A.ints .i64 f), .lst 41 1 []]⟩, ?_, 0, 0, 0, [], [], rfl, by omega, rfl, rfl, TRs.nil, by omega, rfl⟩, ?_⟩
  · have tr_0 : TRs [] [] := TRs.nil
    subst hA
    refine (Sub_nilT (i := 3) 41 1 rfl).trans ?_
    exact Sc [0, 1] (by repeat' (first | exact trivial | exact fun _ => rfl | exact fun h => absurd h (by simp) | exact subC_ints rfl | exact subC_tr tr_0 rfl | exact subC_trv tr_0 rfl rfl | refine And.intro ?_ ?_ | rfl | (simp [subH_nil, hLts, hLt, renCk, renC, sg, Ck.cells, R_ints_ren, R_ints_hLts]; done)))
  rintro kk _ ⟨i, j, k, us, cs, hi, hj, hus, hk, tr_u, hkk, rfl⟩
  have hlv := lvs_len (f.take j) 0
  rw [← hus, ← hk, List.length_take] at hlv
  cbv
  (try simp only [ncast] at *)
  refine ifB_intro (fun h => ?_) (fun h => ?_)
  · have hlt := h
    (try simp only [wA hA] at hlt)
    (try rw [h]); clear h
    cbv
    (try simp only [ncast] at *)
    refine rdA hA (by (first | omega | (try simp only [wA hA, wB hA, Go.IntKind.wrap_i64] at *) <;> omega | (try simp only [decide_eq_true_eq, decide_eq_false_iff_not, beq_iff_eq, beq_eq_false_iff_ne, bne_iff_ne, bne_eq_false_iff_eq, Bool.not_eq_true', Bool.not_eq_false', ncast, Int.not_lt, Int.not_le, ne_eq, not_true_eq_false, not_false_eq_true, false_or, true_and, Go.IntKind.wrap_i64] at *) <;> omega)) (by (first | omega | (try simp only [wA hA, wB hA, Go.IntKind.wrap_i64] at *) <;> omega | (try simp only [decide_eq_true_eq, decide_eq_false_iff_not, beq_iff_eq, beq_eq_false_iff_ne, bne_iff_ne, bne_eq_false_iff_eq, Bool.not_eq_true', Bool.not_eq_false', ncast, Int.not_lt, Int.not_le, ne_eq, not_true_eq_false, not_false_eq_true, false_or, true_and, Go.IntKind.wrap_i64] at *) <;> omega)) fun x hx => ?_
    cbv
    (try simp only [ncast] at *)
    rw [show 0 + i.toNat = j by omega] at hx
    have hjl : j < f.length := by omega
    have htk : f.take (j + 1) = f.take j ++ [x] := by
      rw [List.take_add_one, hx]
      simp [List.getD, hjl]
    have hnx : lvs (f.take (j + 1)) 0 = us ++ (if 0 < x then [.leaf x (j : Nat)] else []) := by
      rw [htk, lvs_snoc, ← hus, List.length_take, show 0 + min j f.length = j by omega]
    have e2 : A.bin .add .i64 i 1 = i + 1 := by rw [addA hA, wrap64 (by omega)]
    cbv
    (try simp only [ncast] at *)
    refine ifB_intro (fun h => ?_) (fun h => ?_)
    · have hpos := h
      (try simp only [wA hA] at hpos)
      (try rw [h]); clear h
      cbv
      (try simp only [ncast] at *)
      (try simp only [e2])
      rw [if_pos hpos] at hnx
      refine ⟨?_, ?_⟩
      · subst hA
        show cs.length = k * 1
        rw [tr_u.len]; omega
      refine ⟨?_, ?_⟩
      · simp only [fitA hA, addNA hA]; unfold room; omega
      (try simp only [e2])
      have e3 : A.add k 1 = k + 1 := addNA hA k 1
      simp only [e3]
      subst hag
      refine again_sub (Sub_frz 2 rfl (.inl ⟨rfl, _, rfl⟩) (by simp [SV.imm])) ?_
      have tr_n : TRs (us ++ [.leaf x (j : Nat)]) ((apd cs [.ptr 2 0]).map (frzC true 2 [.int .i64 x, .int .i64 i, .nilP, .nilP])) := by
        have := tr_u.app (.leaf x (j : Nat))
        rw [apd_eq] at this ⊢
        rw [List.map_append, frz_imms tr_u.imm]
        rw [hi]
        exact this
      subst hA
      refine ⟨f.length - (j + 1), ⟨[(0, .sl 0 0 n false), (3, .lst 1 (k + 1)), (6, .sl 0 0 n false), (7, .int .i64 nI), (8, .int .i64 (i + 1))], [.vw (R.ints .i64 f), .lst 41 1 _]⟩, by omega, ?_, i + 1, j + 1, k + 1, _, _, by omega, by omega, hnx.symm, by simp [hk], tr_n, rfl, rfl⟩
      exact Sd [0, 4] (by repeat' (first | exact trivial | exact fun _ => rfl | exact fun h => absurd h (by simp) | exact subC_ints rfl | exact subC_tr tr_n rfl | exact subC_trv tr_n rfl rfl | refine And.intro ?_ ?_ | rfl | (simp [subH_nil, hLts, hLt, renCk, renC, sg, Ck.cells, R_ints_ren, R_ints_hLts, frzS]; done))) (by repeat' (first | exact trivial | exact .inr ⟨trivial, rfl⟩ | exact .inr ⟨by simp [vOk, hLt, hLts, frzS], rfl⟩ | refine And.intro ?_ ?_))
    · have hpos := h
      (try simp only [wA hA] at hpos)
      (try rw [h]); clear h
      cbv
      (try simp only [ncast] at *)
      (try simp only [e2])
      rw [if_neg (by omega), List.append_nil] at hnx
      subst hA hag
      refine ⟨f.length - (j + 1), ⟨[(0, .sl 0 0 n false), (3, .lst 1 k), (6, .sl 0 0 n false), (7, .int .i64 nI), (8, .int .i64 (i + 1))], [.vw (R.ints .i64 f), .lst 41 1 cs]⟩, by omega, ?_, i + 1, j + 1, k, us, cs, by omega, by omega, hnx.symm, hk, tr_u, rfl, rfl⟩
      exact Sc [0, 1] (by repeat' (first | exact trivial | exact fun _ => rfl | exact fun h => absurd h (by simp) | exact subC_ints rfl | exact subC_tr tr_u rfl | exact subC_trv tr_u rfl rfl | refine And.intro ?_ ?_ | rfl | (simp [subH_nil, hLts, hLt, renCk, renC, sg, Ck.cells, R_ints_ren, R_ints_hLts]; done)))
  · have hge := h
    (try simp only [wA hA] at hge)
    (try rw [h]); clear h
    cbv
    (try simp only [ncast] at *)
    have hjl : j = f.length := by omega
    rw [hjl, List.take_length] at hus
    refine call_sort hC tr_u hk (by omega) (by rw [hus]; exact lvs_asc f 0) rfl fun vs ds hp hs tr_v => ?_
    cbv
    (try simp only [ncast] at *)
    subst hA hq
    refine Fin_sub (Sub_frz 1 rfl (.inr ⟨rfl, _, _, rfl⟩) tr_v.imm) ?_
    refine Fin_of ⟨[(2, .fz 0 k ds)], [.vw (R.ints .i64 f)]⟩ ?_ ⟨vs, ds, by rw [← hus]; exact hp, hs, tr_v, by rw [hp.length_eq, ← hk]; rfl, rfl⟩
    exact Sd [0] (by repeat' (first | exact trivial | exact fun _ => rfl | exact fun h => absurd h (by simp) | exact subC_ints rfl | refine And.intro ?_ ?_ | rfl | (simp [subH_nil, hLts, hLt, renCk, renC, sg, Ck.cells, R_ints_ren, R_ints_hLts, frzS]; done))) (by repeat' (first | exact trivial | exact .inr ⟨trivial, rfl⟩ | exact .inr ⟨by simp [vOk, hLt, hLts, frzS], rfl⟩ | refine And.intro ?_ ?_))
section
variable {A : Ar} {C : CallT} {s : St} {κ : List Nat → SV → List Ck → Prop}
theorem call_coins (hC : C = CallX prog) (hA : A = R) {f : List Int} {hb n : Nat} (hn : n = f.length) (hl : f.length ≤ 1000000) (h4 : cellsAt s.H hb 0 n = some (A.ints .i64 f)) {av : List SV} (hav : argsOk 1 (linkOf s.H.length [(hb, 0, false)]) [.sl 0 0 n false] av)
    (hk : ∀ us ds, us.Perm (lvs f 0) → Srt us → TRs us ds → κ [] (.fz 0 us.length ds) s.H) : C 22 av s κ := by
  have hS := s_coins f n hn hl
  rw [← hA] at hS
  refine cal_of hC hS [(hb, 0, false)] ⟨by simp, trivial⟩ ⟨hLtsA hA .., zOksA hA .., ?_, trivial⟩ hav ?_
  · rw [renA hA, A_ints_len hA, ← hn]; exact h4
  rintro _ _ ⟨us, ds, hp, hs, tr_u, rfl, rfl⟩
  refine ⟨_, _, s.H, rfl, rfl, ?_, hk us ds hp hs tr_u⟩
  simp [backH, setAll]
end
end Go.Sx

/- limit: rows of nodes put two by two, put into one. -/
set_option maxRecDepth 100000
set_option maxHeartbeats 8000000
set_option linter.unusedVariables false
set_option linter.unusedSimpArgs false
namespace Go.Sx
open Go.Proofs.Try

/-- Two by two. -/
def pkM : List Tr → List Tr
  | a :: b :: r => .nd (a.w + b.w) a b :: pkM r
  | _ => []
theorem pkM_len : ∀ l : List Tr, (pkM l).length = l.length / 2
  | [] => rfl
  | [_] => by simp [pkM]
  | a :: b :: r => by
    simp only [pkM, List.length_cons, pkM_len r]
    omega
theorem pkM_drop {l : List Tr} {i : Nat} {a b : Tr} (ha : l[i]? = some a) (hb : l[i + 1]? = some b) : pkM (l.drop i) = .nd (a.w + b.w) a b :: pkM (l.drop (i + 2)) := by
  obtain ⟨h1, rfl⟩ := List.getElem?_eq_some_iff.1 ha
  obtain ⟨h2, rfl⟩ := List.getElem?_eq_some_iff.1 hb
  rw [List.drop_eq_getElem_cons h1, List.drop_eq_getElem_cons h2]
  rfl
/-- Two rising rows in one; coins first. -/
def mgM : List Tr → List Tr → List Tr
  | [], ps => ps
  | c :: cs, [] => c :: cs
  | c :: cs, p :: ps => if c.w ≤ p.w then c :: mgM cs (p :: ps) else p :: mgM (c :: cs) ps
termination_by a b => a.length + b.length
theorem mgM_nil (cs : List Tr) : mgM cs [] = cs := by cases cs <;> simp [mgM]
theorem mgM_left {a b : List Tr} {i j : Nat} {c : Tr} (hc : a[i]? = some c) (h : ∀ p, b[j]? = some p → c.w ≤ p.w) : mgM (a.drop i) (b.drop j) = c :: mgM (a.drop (i + 1)) (b.drop j) := by
  obtain ⟨h1, rfl⟩ := List.getElem?_eq_some_iff.1 hc
  rw [List.drop_eq_getElem_cons h1]
  cases hb : b.drop j with
  | nil => rw [mgM_nil, mgM_nil]
  | cons p r =>
    have hp : b[j]? = some p := by
      have := congrArg (fun l => l[0]?) hb
      simpa using this
    rw [mgM, if_pos (h p hp)]
theorem mgM_right {a b : List Tr} {i j : Nat} {p : Tr} (hp : b[j]? = some p) (h : ∀ c, a[i]? = some c → p.w < c.w) : mgM (a.drop i) (b.drop j) = p :: mgM (a.drop i) (b.drop (j + 1)) := by
  obtain ⟨h1, rfl⟩ := List.getElem?_eq_some_iff.1 hp
  rw [List.drop_eq_getElem_cons h1]
  cases ha : a.drop i with
  | nil => simp [mgM]
  | cons c r =>
    have hc : a[i]? = some c := by
      have := congrArg (fun l => l[0]?) ha
      simpa using this
    have := h c hc
    rw [mgM, if_neg (by omega)]
theorem mgM_len : ∀ a b : List Tr, (mgM a b).length = a.length + b.length
  | [], ps => by simp [mgM]
  | c :: cs, [] => by simp [mgM]
  | c :: cs, p :: ps => by
    rw [mgM]
    split
    · simp only [List.length_cons, mgM_len cs (p :: ps)]; omega
    · simp only [List.length_cons, mgM_len (c :: cs) ps]; omega
termination_by a b => a.length + b.length

theorem s_packages (l : List Tr) (n : Nat) (cs : List SV) (tr_h : TRs l cs) (hn : n = l.length) (hl : l.length ≤ 1000000) (hw : ∀ t ∈ l, 0 ≤ t.w ∧ t.w ≤ 4000000000000000000) :
    Spec prog 27 [.fz 0 n cs] [] (fun r H => ∃ ds, TRs (pkM l) ds ∧ r = .fz 0 (pkM l).length ds ∧ H = []) := by
  refine Spec_of_kF (D := fun i => if i = 5 then (29, []) else (0, [])) (ks := [0, 2, 3, 4]) tok mixed (fn := f27) rfl rfl rfl (by kernel_rfl) (N := 43) rfl (rs := [.tmp 2]) rfl (Nat.le_of_ble_eq_true rfl) fun A C Kp E ag L q hA hC hK hE hag hL hq => ?_
  have en : A.nat n = (n : Int) := natA hA n
  obtain ⟨nI, hnI⟩ : ∃ z : Int, z = (n : Int) := ⟨_, rfl⟩
  rw [← hnI] at en
  cbv
  (try simp only [ncast] at *)
  rw [hL]
  refine ⟨fun kk s => ∃ (i : Int) (j k : Nat) (us : List Tr) (ds : List SV), i = j ∧ j ≤ l.length + 1 ∧ us ++ pkM (l.drop j) = pkM l ∧ 2 * us.length = j ∧ k = us.length ∧ TRs us ds ∧ kk = l.length + 1 - j ∧ s = ⟨[(0, .fz 0 n cs), (3, .lst 0 k), (4, .int .i64 i)], [.lst 41 1 ds]⟩,
    ⟨l.length + 1, ⟨[(0, .fz 0 n cs), (3, .lst 0 0), (4, .int .i64 0)], [.lst 41 1 []]⟩, ?_, 0, 0, 0, [], [], rfl, by omega, rfl, rfl, rfl, TRs.nil, by omega, rfl⟩, ?_⟩
  · have tr_0 : TRs [] [] := TRs.nil
    refine (Sub_nilT (i := 3) 41 1 rfl).trans ?_
    exact Sc [0] (by repeat' (first | exact trivial | exact fun _ => rfl | exact fun h => absurd h (by simp) | exact subC_ints rfl | exact subC_tr tr_0 rfl | exact subC_trv tr_0 rfl rfl | refine And.intro ?_ ?_ | rfl | (simp [subH_nil, hLts, hLt, renCk, renC, sg, Ck.cells, R_ints_ren, R_ints_hLts]; done)))
  rintro kk _ ⟨i, j, k, us, ds, hi, hj, hus, hul, hk, tr_u, hkk, rfl⟩
  have e1 : A.bin .add .i64 i 1 = i + 1 := by rw [addA hA, wrap64 (by omega)]
  obtain ⟨i1, hi1⟩ : ∃ z, z = i + 1 := ⟨_, rfl⟩
  rw [← hi1] at e1
  have e2 : A.bin .add .i64 i 2 = i + 2 := by rw [addA hA, wrap64 (by omega)]
  cbv
  (try simp only [ncast] at *)
  simp only [e1, en]
  refine ifB_intro (fun h => ?_) (fun h => ?_)
  · have hlt := h
    (try simp only [wA hA] at hlt)
    (try rw [h]); clear h
    cbv
    (try simp only [ncast] at *)
    (try simp only [e1, en])
    refine tr_h.rd hA (by omega) (by omega) fun a ca ha hca => ?_
    rw [show 0 + i.toNat = j by omega] at ha
    cbv
    (try simp only [ncast] at *)
    refine rdW hca fun wa hwa => ?_
    cbv
    (try simp only [ncast] at *)
    (try simp only [e1, en])
    refine tr_h.rd hA (by omega) (by omega) fun b cb hb hcb => ?_
    rw [show 0 + i1.toNat = j + 1 by omega] at hb
    cbv
    (try simp only [ncast] at *)
    refine rdW hcb fun wb hwb => ?_
    cbv
    (try simp only [ncast] at *)
    (try simp only [e1, en])
    refine tr_h.rd hA (by omega) (by omega) fun a' ca' ha' hca' => ?_
    rw [show 0 + i.toNat = j by omega, ha] at ha'
    obtain rfl := Option.some.inj ha'
    cbv
    (try simp only [ncast] at *)
    (try simp only [e1, en])
    refine tr_h.rd hA (by omega) (by omega) fun b' cb' hb' hcb' => ?_
    rw [show 0 + i1.toNat = j + 1 by omega, hb] at hb'
    obtain rfl := Option.some.inj hb'
    have h1 := hw a (List.mem_of_getElem? ha)
    have h2 := hw b (List.mem_of_getElem? hb)
    have e3 : A.bin .add .i64 wa wb = wa + wb := by rw [addA hA, wrap64 (by omega)]
    cbv
    (try simp only [ncast] at *)
    (try simp only [e1, e2, e3, en])
    refine ⟨?_, ?_⟩
    · subst hA
      show ds.length = k * 1
      rw [tr_u.len]; omega
    refine ⟨?_, ?_⟩
    · simp only [fitA hA, addNA hA]; unfold room; omega
    have e4 : A.add k 1 = k + 1 := addNA hA k 1
    (try simp only [e1, e2, e3, e4, en])
    obtain ⟨bc, hbc⟩ : ∃ bc, bc = [SV.int .i64 (wa + wb), .int .i64 (-1), .fp 0 ca', .fp 0 cb'] := ⟨_, rfl⟩
    have hbt : bc = (Tr.nd (a.w + b.w) a b).cs := by rw [hbc, hwa, hwb, hca', hcb']; rfl
    have tr_n : TRs (us ++ [.nd (a.w + b.w) a b]) ((apd ds [.ptr 1 0]).map (frzC true 1 bc)) := by
      have := tr_u.app (.nd (a.w + b.w) a b)
      rw [apd_eq] at this ⊢
      rw [List.map_append, frz_imms tr_u.imm, hbt]
      exact this
    have hus2 : us ++ [.nd (a.w + b.w) a b] ++ pkM (l.drop (j + 2)) = pkM l := by rw [← hus, pkM_drop ha hb]; simp
    simp only [← hbc]
    subst hag
    refine again_sub (Sub_frz 1 rfl (.inl ⟨rfl, _, rfl⟩) (by rw [hbt]; exact Tr.imm _)) ?_
    subst hA
    refine ⟨l.length + 1 - (j + 2), ⟨[(0, .fz 0 n cs), (3, .lst 0 (k + 1)), (4, .int .i64 (i + 2))], [.lst 41 1 _]⟩, by omega, ?_, i + 2, j + 2, k + 1, _, _, by omega, by omega, hus2, by simp; omega, by simp; omega, tr_n, rfl, rfl⟩
    exact Sd [3] (by repeat' (first | exact trivial | exact fun _ => rfl | exact fun h => absurd h (by simp) | exact subC_ints rfl | exact subC_tr tr_n rfl | exact subC_trv tr_n rfl rfl | refine And.intro ?_ ?_ | rfl | (simp [subH_nil, hLts, hLt, renCk, renC, sg, Ck.cells, R_ints_ren, R_ints_hLts, frzS]; done))) (by repeat' (first | exact trivial | exact .inr ⟨trivial, rfl⟩ | exact .inr ⟨by simp [vOk, hLt, hLts, frzS], rfl⟩ | refine And.intro ?_ ?_))
  · have hge := h
    (try simp only [wA hA] at hge)
    (try rw [h]); clear h
    cbv
    (try simp only [ncast] at *)
    have hd : pkM (l.drop j) = [] := by
      have h0 : (l.drop j).length ≤ 1 := by rw [List.length_drop]; omega
      cases hx : l.drop j with
      | nil => rfl
      | cons x r => cases r with
        | nil => rfl
        | cons y r => rw [hx] at h0; simp at h0
    rw [hd, List.append_nil] at hus
    subst hA hq
    refine Fin_sub (Sub_frz 0 rfl (.inr ⟨rfl, _, _, rfl⟩) tr_u.imm) ?_
    refine Fin_of ⟨[(2, .fz 0 k ds)], []⟩ ?_ ⟨ds, by rw [← hus]; exact tr_u, by rw [← hus, ← hk]; rfl, rfl⟩
    exact Sd [] (by repeat' (first | exact trivial | exact fun _ => rfl | exact fun h => absurd h (by simp) | exact subC_ints rfl | refine And.intro ?_ ?_ | rfl | (simp [subH_nil, hLts, hLt, renCk, renC, sg, Ck.cells, R_ints_ren, R_ints_hLts, frzS]; done))) (by repeat' (first | exact trivial | exact .inr ⟨trivial, rfl⟩ | exact .inr ⟨by simp [vOk, hLt, hLts, frzS], rfl⟩ | refine And.intro ?_ ?_))

theorem s_merge (a b : List Tr) (n m : Nat) (cs ds : List SV) (tr_a : TRs a cs) (tr_b : TRs b ds) (hn : n = a.length) (hm : m = b.length) (hl : a.length + b.length ≤ 1000000) :
    Spec prog 26 [.fz 0 n cs, .fz 0 m ds] [] (fun r H => ∃ es, TRs (mgM a b) es ∧ r = .fz 0 (mgM a b).length es ∧ H = []) := by
  refine Spec_of_kF (D := fun i => if i = 3 then (20, []) else (0, [])) (ks := [0, 1, 4, 5]) tok mixed (fn := f26) rfl rfl rfl (by kernel_rfl) (N := 60) rfl (rs := [.tmp 4]) rfl (Nat.le_of_ble_eq_true rfl) fun A C Kp E ag L q hA hC hK hE hag hL hq => ?_
  have e0 : A.bin .add .i64 (A.nat n) (A.nat m) = ((n + m : Nat) : Int) := by rw [addA hA, natA hA, natA hA, wrap64 (by omega)]; omega
  obtain ⟨nm, hnm⟩ : ∃ z : Int, z = ((n + m : Nat) : Int) := ⟨_, rfl⟩
  rw [← hnm] at e0
  cbv
  (try simp only [ncast] at *)
  simp only [e0]
  refine ⟨?_, ?_⟩
  · simp only [mksA hA]; omega
  have er : A.row 0 [.pointer none] = [] := by subst hA; rfl
  have et : A.tn 0 = 0 := by rw [tnA hA]; rfl
  simp only [er, et]
  rw [hL]
  refine ⟨fun kk s => ∃ (oa na ob nb k : Nat) (us : List Tr) (es : List SV), oa + na = n ∧ ob + nb = m ∧ us ++ mgM (a.drop oa) (b.drop ob) = mgM a b ∧ us.length = oa + ob ∧ k = us.length ∧ TRs us es ∧ kk = na + nb ∧ s = ⟨[(0, .fz oa na cs), (1, .fz ob nb ds), (5, .lst 0 k)], [.lst 41 1 es]⟩,
    ⟨n + m, ⟨[(0, .fz 0 n cs), (1, .fz 0 m ds), (5, .lst 0 0)], [.lst 41 1 []]⟩, ?_, 0, n, 0, m, 0, [], [], by omega, by omega, rfl, rfl, rfl, TRs.nil, rfl, rfl⟩, ?_⟩
  · have tr_0 : TRs [] [] := TRs.nil
    subst hA
    exact Sc [0] (by repeat' (first | exact trivial | exact fun _ => rfl | exact fun h => absurd h (by simp) | exact subC_ints rfl | exact subC_tr tr_0 rfl | exact subC_trv tr_0 rfl rfl | refine And.intro ?_ ?_ | rfl | (simp [subH_nil, hLts, hLt, renCk, renC, sg, Ck.cells, R_ints_ren, R_ints_hLts]; done)))
  clear er et e0
  rintro kk _ ⟨oa, na, ob, nb, k, us, es, hoa, hob, hus, hul, hk, tr_u, hkk, rfl⟩
  have ea : A.nat na = (na : Int) := natA hA na
  have eb : A.nat nb = (nb : Int) := natA hA nb
  obtain ⟨naI, hna⟩ : ∃ z : Int, z = (na : Int) := ⟨_, rfl⟩
  obtain ⟨nbI, hnb⟩ : ∃ z : Int, z = (nb : Int) := ⟨_, rfl⟩
  rw [← hna] at ea
  rw [← hnb] at eb
  have gT : ∀ {x y : Int}, y < x → A.cmp .gtr x y = true := fun h => by rw [gtrA hA]; exact decide_eq_true h
  have gF : ∀ {x y : Int}, ¬ y < x → A.cmp .gtr x y = false := fun h => by rw [gtrA hA]; exact decide_eq_false h
  have qT : ∀ {x y : Int}, x = y → A.cmp .eql x y = true := fun h => by rw [eqlA hA]; simp [h]
  have qF : ∀ {x y : Int}, x ≠ y → A.cmp .eql x y = false := fun h => by rw [eqlA hA]; simp [h]
  have e4 : A.add k 1 = k + 1 := addNA hA k 1
  have e5 : A.ix oa 1 1 = oa + 1 := by rw [ixA hA]; rfl
  have e6 : A.cnt naI 1 = na - 1 := by rw [cntA hA]; omega
  have e7 : A.ix ob 1 1 = ob + 1 := by rw [ixA hA]; rfl
  have e8 : A.cnt nbI 1 = nb - 1 := by rw [cntA hA]; omega
  have noA : na = 0 → ∀ p, a[oa]? = some p → False := fun h p hp => by
    have := (List.getElem?_eq_some_iff.1 hp).1; omega
  have noB : nb = 0 → ∀ p, b[ob]? = some p → False := fun h p hp => by
    have := (List.getElem?_eq_some_iff.1 hp).1; omega
  cbv
  (try simp only [ncast] at *)
  (try simp only [ea, eb])
  by_cases hA0 : na = 0
  · refine ifF (by exact gF (by omega)) fun h => ?_
    (try rw [h]); clear h
    cbv
    (try simp only [ncast] at *)
    (try simp only [ea, eb])
    by_cases hB0 : nb = 0
    · refine ifF (by exact gF (by omega)) fun h => ?_
      (try rw [h]); clear h
      cbv
      (try simp only [ncast] at *)
      have hd1 : a.drop oa = [] := List.drop_eq_nil_of_le (by omega)
      have hd2 : b.drop ob = [] := List.drop_eq_nil_of_le (by omega)
      rw [hd1, hd2, mgM_nil, List.append_nil] at hus
      subst hA hq
      refine Fin_sub (Sub_frz 0 rfl (.inr ⟨rfl, _, _, rfl⟩) tr_u.imm) ?_
      refine Fin_of ⟨[(4, .fz 0 k es)], []⟩ ?_ ⟨es, by rw [← hus]; exact tr_u, by rw [← hus, ← hk]; rfl, rfl⟩
      exact Sd [] (by repeat' (first | exact trivial | exact fun _ => rfl | exact fun h => absurd h (by simp) | exact subC_ints rfl | refine And.intro ?_ ?_ | rfl | (simp [subH_nil, hLts, hLt, renCk, renC, sg, Ck.cells, R_ints_ren, R_ints_hLts, frzS]; done))) (by repeat' (first | exact trivial | exact .inr ⟨trivial, rfl⟩ | exact .inr ⟨by simp [vOk, hLt, hLts, frzS], rfl⟩ | refine And.intro ?_ ?_))
    · refine ifT (by exact gT (by omega)) fun h => ?_
      (try rw [h]); clear h
      cbv
      (try simp only [ncast] at *)
      (try simp only [ea, eb])
      refine ifF (by exact qF (by omega)) fun h => ?_
      (try rw [h]); clear h
      cbv
      (try simp only [ncast] at *)
      (try simp only [ea, eb])
      refine ifF (by exact gF (by omega)) fun h => ?_
      (try rw [h]); clear h
      cbv
      (try simp only [ncast] at *)
      (try simp only [ea, eb])
      refine tr_b.rd hA (by omega) (by omega) fun c cc hc hcc => ?_
      rw [show ob + (0 : Int).toNat = ob by simp] at hc
      cbv
      (try simp only [ncast] at *)
      (try simp only [ea, eb])
      refine ⟨?_, ?_⟩
      · subst hA
        show es.length = k * 1
        rw [tr_u.len]; omega
      refine ⟨?_, ?_⟩
      · simp only [fitA hA, addNA hA]; unfold room; omega
      refine ⟨by simp only [ge0A hA]; decide, by simp only [leIA hA]; omega, by simp only [leIA hA]; omega, ?_⟩
      simp only [e4, e7, e8]
      have tr_n : TRs (us ++ [c]) (apd es [.fp 0 cc]) := by rw [hcc]; exact tr_u.app c
      have hus2 : us ++ [c] ++ mgM (a.drop oa) (b.drop (ob + 1)) = mgM a b := by
        rw [← hus, mgM_right hc fun p hp => ((noA hA0 p hp).elim)]; simp
      subst hA hag
      refine ⟨na + (nb - 1), ⟨[(0, .fz oa na cs), (1, .fz (ob + 1) (nb - 1) ds), (5, .lst 0 (k + 1))], [.lst 41 1 _]⟩, by omega, ?_, oa, na, ob + 1, nb - 1, k + 1, _, _, by omega, by omega, hus2, by simp; omega, by simp; omega, tr_n, by omega, rfl⟩
      exact Sc [2] (by repeat' (first | exact trivial | exact fun _ => rfl | exact fun h => absurd h (by simp) | exact subC_ints rfl | exact subC_tr tr_n rfl | exact subC_trv tr_n rfl rfl | refine And.intro ?_ ?_ | rfl | (simp [subH_nil, hLts, hLt, renCk, renC, sg, Ck.cells, R_ints_ren, R_ints_hLts]; done)))
  · refine ifT (by exact gT (by omega)) fun h => ?_
    (try rw [h]); clear h
    cbv
    (try simp only [ncast] at *)
    (try simp only [ea, eb])
    by_cases hB0 : nb = 0
    · refine ifT (by exact qT (by omega)) fun h => ?_
      (try rw [h]); clear h
      cbv
      (try simp only [ncast] at *)
      (try simp only [ea, eb])
      refine tr_a.rd hA (by omega) (by omega) fun c cc hc hcc => ?_
      rw [show oa + (0 : Int).toNat = oa by simp] at hc
      cbv
      (try simp only [ncast] at *)
      (try simp only [ea, eb])
      refine ⟨?_, ?_⟩
      · subst hA
        show es.length = k * 1
        rw [tr_u.len]; omega
      refine ⟨?_, ?_⟩
      · simp only [fitA hA, addNA hA]; unfold room; omega
      refine ⟨by simp only [ge0A hA]; decide, by simp only [leIA hA]; omega, by simp only [leIA hA]; omega, ?_⟩
      simp only [e4, e5, e6]
      have tr_n : TRs (us ++ [c]) (apd es [.fp 0 cc]) := by rw [hcc]; exact tr_u.app c
      have hus2 : us ++ [c] ++ mgM (a.drop (oa + 1)) (b.drop ob) = mgM a b := by
        rw [← hus, mgM_left hc fun p hp => ((noB hB0 p hp).elim)]; simp
      subst hA hag
      refine ⟨na - 1 + nb, ⟨[(0, .fz (oa + 1) (na - 1) cs), (1, .fz ob nb ds), (5, .lst 0 (k + 1))], [.lst 41 1 _]⟩, by omega, ?_, oa + 1, na - 1, ob, nb, k + 1, _, _, by omega, by omega, hus2, by simp; omega, by simp; omega, tr_n, by omega, rfl⟩
      exact Sc [2] (by repeat' (first | exact trivial | exact fun _ => rfl | exact fun h => absurd h (by simp) | exact subC_ints rfl | exact subC_tr tr_n rfl | exact subC_trv tr_n rfl rfl | refine And.intro ?_ ?_ | rfl | (simp [subH_nil, hLts, hLt, renCk, renC, sg, Ck.cells, R_ints_ren, R_ints_hLts]; done)))
    · refine ifF (by exact qF (by omega)) fun h => ?_
      (try rw [h]); clear h
      cbv
      (try simp only [ncast] at *)
      (try simp only [ea, eb])
      refine ifT (by exact gT (by omega)) fun h => ?_
      (try rw [h]); clear h
      cbv
      (try simp only [ncast] at *)
      (try simp only [ea, eb])
      refine tr_a.rd hA (by omega) (by omega) fun c1 d1 hc1 hd1 => ?_
      rw [show oa + (0 : Int).toNat = oa by simp] at hc1
      cbv
      (try simp only [ncast] at *)
      (try simp only [ea, eb])
      refine rdW hd1 fun w1 hw1 => ?_
      cbv
      (try simp only [ncast] at *)
      (try simp only [ea, eb])
      refine tr_b.rd hA (by omega) (by omega) fun c2 d2 hc2 hd2 => ?_
      rw [show ob + (0 : Int).toNat = ob by simp] at hc2
      cbv
      (try simp only [ncast] at *)
      (try simp only [ea, eb])
      refine rdW hd2 fun w2 hw2 => ?_
      cbv
      (try simp only [ncast] at *)
      (try simp only [ea, eb])
      refine ifB_intro (fun h => ?_) (fun h => ?_)
      · have hle := h
        (try simp only [wA hA] at hle)
        (try rw [h]); clear h
        cbv
        (try simp only [ncast] at *)
        have hW : ∀ q, b[ob]? = some q → ∀ c, a[oa]? = some c → c.w ≤ q.w := fun q h1 c h2 => by
          rw [hc2] at h1; rw [hc1] at h2
          obtain rfl := Option.some.inj h1
          obtain rfl := Option.some.inj h2
          omega
        (try simp only [ea, eb])
        refine tr_a.rd hA (by omega) (by omega) fun c cc hc hcc => ?_
        rw [show oa + (0 : Int).toNat = oa by simp] at hc
        cbv
        (try simp only [ncast] at *)
        (try simp only [ea, eb])
        refine ⟨?_, ?_⟩
        · subst hA
          show es.length = k * 1
          rw [tr_u.len]; omega
        refine ⟨?_, ?_⟩
        · simp only [fitA hA, addNA hA]; unfold room; omega
        refine ⟨by simp only [ge0A hA]; decide, by simp only [leIA hA]; omega, by simp only [leIA hA]; omega, ?_⟩
        simp only [e4, e5, e6]
        have tr_n : TRs (us ++ [c]) (apd es [.fp 0 cc]) := by rw [hcc]; exact tr_u.app c
        have hus2 : us ++ [c] ++ mgM (a.drop (oa + 1)) (b.drop ob) = mgM a b := by
          rw [← hus, mgM_left hc fun p hp => (hW p hp _ hc)]; simp
        subst hA hag
        refine ⟨na - 1 + nb, ⟨[(0, .fz (oa + 1) (na - 1) cs), (1, .fz ob nb ds), (5, .lst 0 (k + 1))], [.lst 41 1 _]⟩, by omega, ?_, oa + 1, na - 1, ob, nb, k + 1, _, _, by omega, by omega, hus2, by simp; omega, by simp; omega, tr_n, by omega, rfl⟩
        exact Sc [2] (by repeat' (first | exact trivial | exact fun _ => rfl | exact fun h => absurd h (by simp) | exact subC_ints rfl | exact subC_tr tr_n rfl | exact subC_trv tr_n rfl rfl | refine And.intro ?_ ?_ | rfl | (simp [subH_nil, hLts, hLt, renCk, renC, sg, Ck.cells, R_ints_ren, R_ints_hLts]; done)))
      · have hgt := h
        (try simp only [wA hA] at hgt)
        (try rw [h]); clear h
        cbv
        (try simp only [ncast] at *)
        have hW : ∀ q, a[oa]? = some q → ∀ c, b[ob]? = some c → c.w < q.w := fun q h1 c h2 => by
          rw [hc1] at h1; rw [hc2] at h2
          obtain rfl := Option.some.inj h1
          obtain rfl := Option.some.inj h2
          omega
        (try simp only [ea, eb])
        refine tr_b.rd hA (by omega) (by omega) fun c cc hc hcc => ?_
        rw [show ob + (0 : Int).toNat = ob by simp] at hc
        cbv
        (try simp only [ncast] at *)
        (try simp only [ea, eb])
        refine ⟨?_, ?_⟩
        · subst hA
          show es.length = k * 1
          rw [tr_u.len]; omega
        refine ⟨?_, ?_⟩
        · simp only [fitA hA, addNA hA]; unfold room; omega
        refine ⟨by simp only [ge0A hA]; decide, by simp only [leIA hA]; omega, by simp only [leIA hA]; omega, ?_⟩
        simp only [e4, e7, e8]
        have tr_n : TRs (us ++ [c]) (apd es [.fp 0 cc]) := by rw [hcc]; exact tr_u.app c
        have hus2 : us ++ [c] ++ mgM (a.drop oa) (b.drop (ob + 1)) = mgM a b := by
          rw [← hus, mgM_right hc fun p hp => (hW p hp _ hc)]; simp
        subst hA hag
        refine ⟨na + (nb - 1), ⟨[(0, .fz oa na cs), (1, .fz (ob + 1) (nb - 1) ds), (5, .lst 0 (k + 1))], [.lst 41 1 _]⟩, by omega, ?_, oa, na, ob + 1, nb - 1, k + 1, _, _, by omega, by omega, hus2, by simp; omega, by simp; omega, tr_n, by omega, rfl⟩
        exact Sc [2] (by repeat' (first | exact trivial | exact fun _ => rfl | exact fun h => absurd h (by simp) | exact subC_ints rfl | exact subC_tr tr_n rfl | exact subC_trv tr_n rfl rfl | refine And.intro ?_ ?_ | rfl | (simp [subH_nil, hLts, hLt, renCk, renC, sg, Ck.cells, R_ints_ren, R_ints_hLts]; done)))
section
variable {A : Ar} {C : CallT} {s : St} {κ : List Nat → SV → List Ck → Prop}
theorem call_packages (hC : C = CallX prog) {l : List Tr} {n : Nat} {cs : List SV} (tr_h : TRs l cs) (hn : n = l.length) (hl : l.length ≤ 1000000) (hw : ∀ t ∈ l, 0 ≤ t.w ∧ t.w ≤ 4000000000000000000) (hk : ∀ ds, TRs (pkM l) ds → κ [] (.fz 0 (pkM l).length ds) s.H) :
    C 27 [.fz 0 n cs] s κ := by
  refine cal_of hC (s_packages l n cs tr_h hn hl hw) [] trivial trivial ⟨⟨trivial, trivial, rfl⟩, trivial⟩ ?_
  rintro _ _ ⟨ds, tr_d, rfl, rfl⟩
  refine ⟨_, _, s.H, rfl, rfl, ?_, hk ds tr_d⟩
  simp [backH, setAll]
theorem call_merge (hC : C = CallX prog) {a b : List Tr} {n m : Nat} {cs ds : List SV} (tr_a : TRs a cs) (tr_b : TRs b ds) (hn : n = a.length) (hm : m = b.length) (hl : a.length + b.length ≤ 1000000) (hk : ∀ es, TRs (mgM a b) es → κ [] (.fz 0 (mgM a b).length es) s.H) :
    C 26 [.fz 0 n cs, .fz 0 m ds] s κ := by
  refine cal_of hC (s_merge a b n m cs ds tr_a tr_b hn hm hl) [] trivial trivial ⟨⟨trivial, trivial, rfl⟩, ⟨trivial, trivial, rfl⟩, trivial⟩ ?_
  rintro _ _ ⟨es, tr_e, rfl, rfl⟩
  refine ⟨_, _, s.H, rfl, rfl, ?_, hk es tr_e⟩
  simp [backH, setAll]
end
end Go.Sx

/- limit: the lesser of two rows' first nodes; all put together. -/
set_option maxRecDepth 100000
set_option maxHeartbeats 8000000
set_option linter.unusedVariables false
set_option linter.unusedSimpArgs false
namespace Go.Sx
open Go.Proofs.Try

/-- The lesser one of two rows' first ones; of one weight the coin. -/
def tk : List Tr → List Tr → Tr × List Tr × List Tr
  | c :: cs, m :: ms => if c.w ≤ m.w then (c, cs, m :: ms) else (m, c :: cs, ms)
  | c :: cs, [] => (c, cs, [])
  | [], m :: ms => (m, [], ms)
  | [], [] => (default, [], [])
/-- So often the two least ones are put together. -/
def hufM : Nat → List Tr → List Tr → Tr
  | 0, _, ms => ms.headD default
  | n + 1, cs, ms => hufM n (tk (tk cs ms).2.1 (tk cs ms).2.2).2.1 ((tk (tk cs ms).2.1 (tk cs ms).2.2).2.2 ++ [.nd ((tk cs ms).1.w + (tk (tk cs ms).2.1 (tk cs ms).2.2).1.w) (tk cs ms).1 (tk (tk cs ms).2.1 (tk cs ms).2.2).1])

/-- What is taken of coins from o on, of packages from p on. -/
def LsR (a b : List Tr) (o p : Nat) (t : Tr) (o' p' : Nat) : Prop :=
  (o' = o + 1 ∧ p' = p ∧ a[o]? = some t ∧ ∀ m, b[p]? = some m → t.w ≤ m.w) ∨ (o' = o ∧ p' = p + 1 ∧ b[p]? = some t ∧ ∀ c, a[o]? = some c → t.w < c.w)
theorem LsR.tk {a b : List Tr} {o p o' p' : Nat} {t : Tr} (h : LsR a b o p t o' p') : tk (a.drop o) (b.drop p) = (t, a.drop o', b.drop p') := by
  rcases h with ⟨rfl, rfl, h1, h2⟩ | ⟨rfl, rfl, h1, h2⟩
  · obtain ⟨h3, rfl⟩ := List.getElem?_eq_some_iff.1 h1
    rw [List.drop_eq_getElem_cons h3]
    cases hb : b.drop p' with
    | nil => rfl
    | cons m r =>
      have hm : b[p']? = some m := by
        have := congrArg (fun l => l[0]?) hb
        simpa using this
      simp only [Sx.tk]
      rw [if_pos (h2 m hm)]
  · obtain ⟨h3, rfl⟩ := List.getElem?_eq_some_iff.1 h1
    rw [List.drop_eq_getElem_cons h3]
    cases ha : a.drop o' with
    | nil => rfl
    | cons m r =>
      have hm : a[o']? = some m := by
        have := congrArg (fun l => l[0]?) ha
        simpa using this
      have := h2 m hm
      simp only [Sx.tk]
      rw [if_neg (by omega)]

theorem s_least (a b : List Tr) (o n p k : Nat) (cs ds : List SV) (tr_a : TRs a cs) (tr_b : TRs b ds) (hn : o + n = a.length) (hk : p + k = b.length) (hl : a.length ≤ 1000000) (hl2 : b.length ≤ 1000000) (hne : 0 < n + k) :
    Spec prog 33 [.fz o n cs, .tl 0 p k] [.lst 41 1 ds] (fun r H => ∃ t c o' n' p' k', LsR a b o p t o' p' ∧ c = t.cs ∧ o' + n' = a.length ∧ p' + k' = b.length ∧ r = .tup [.fp 0 c, .fz o' n' cs, .tl 0 p' k'] ∧ H = [.lst 41 1 ds]) := by
  refine Spec_of_kX (D := fun i => if i = 1 then (20, []) else if i = 2 then (8, []) else if i = 3 then (8, []) else (0, [])) (ks := [0, 1, 4, 5, 6]) tok mixed (fn := f33) rfl rfl rfl (by kernel_rfl) (N := 42) rfl (rs := [.tmp 4, .tmp 5, .tmp 6]) rfl (Nat.le_of_ble_eq_true rfl) fun A C Kp E ag L q hA hC hK hE hag hL hq => ?_
  have ea : A.nat n = (n : Int) := natA hA n
  have eb : A.nat k = (k : Int) := natA hA k
  obtain ⟨nI, hnI⟩ : ∃ z : Int, z = (n : Int) := ⟨_, rfl⟩
  obtain ⟨kI, hkI⟩ : ∃ z : Int, z = (k : Int) := ⟨_, rfl⟩
  rw [← hnI] at ea
  rw [← hkI] at eb
  have gT : ∀ {x y : Int}, y < x → A.cmp .gtr x y = true := fun h => by rw [gtrA hA]; exact decide_eq_true h
  have gF : ∀ {x y : Int}, ¬ y < x → A.cmp .gtr x y = false := fun h => by rw [gtrA hA]; exact decide_eq_false h
  have qT : ∀ {x y : Int}, x = y → A.cmp .eql x y = true := fun h => by rw [eqlA hA]; simp [h]
  have qF : ∀ {x y : Int}, x ≠ y → A.cmp .eql x y = false := fun h => by rw [eqlA hA]; simp [h]
  have e5 : A.ix o 1 1 = o + 1 := by rw [ixA hA]; rfl
  have e6 : A.cnt nI 1 = n - 1 := by rw [cntA hA]; omega
  have e7 : A.add p (A.tn 1) = p + 1 := by rw [addNA hA, tnA hA]; rfl
  have e8 : A.cnt kI 1 = k - 1 := by rw [cntA hA]; omega
  have noA : n = 0 → ∀ p, a[o]? = some p → False := fun h p hp => by
    have := (List.getElem?_eq_some_iff.1 hp).1; omega
  have noB : k = 0 → ∀ q, b[p]? = some q → False := fun h q hq => by
    have := (List.getElem?_eq_some_iff.1 hq).1; omega
  cbv
  (try simp only [ncast] at *)
  (try simp only [ea, eb])
  by_cases hB0 : k = 0
  · refine ifT (by exact qT (by omega)) fun h => ?_
    (try rw [h]); clear h
    cbv
    (try simp only [ncast] at *)
    (try simp only [ea, eb])
    refine tr_a.rd hA (by omega) (by omega) fun c cc hc hcc => ?_
    rw [show o + (0 : Int).toNat = o by simp] at hc
    cbv
    (try simp only [ncast] at *)
    (try simp only [ea, eb])
    refine ⟨by simp only [ge0A hA]; decide, by simp only [leIA hA]; omega, by simp only [leIA hA]; omega, ?_⟩
    (try simp only [e5, e6])
    subst hA hq
    exact ⟨c, cc, o + 1, n - 1, p, k, .inl ⟨rfl, rfl, hc, fun m hm => ((noB hB0 m hm).elim)⟩, hcc, by omega, hk, rfl, rfl⟩
  · refine ifF (by exact qF (by omega)) fun h => ?_
    (try rw [h]); clear h
    cbv
    (try simp only [ncast] at *)
    (try simp only [ea, eb])
    by_cases hA0 : n = 0
    · refine ifF (by exact gF (by omega)) fun h => ?_
      (try rw [h]); clear h
      cbv
      (try simp only [ncast] at *)
      (try simp only [ea, eb])
      refine tr_b.rd hA (by omega) (by omega) fun c cc hc hcc => ?_
      rw [show p + (0 : Int).toNat = p by simp] at hc
      cbv
      (try simp only [ncast] at *)
      (try simp only [ea, eb])
      refine ⟨by simp only [ge0A hA]; decide, by simp only [leIA hA]; omega, ?_⟩
      (try simp only [e7, e8])
      subst hA hq
      exact ⟨c, cc, o, n, p + 1, k - 1, .inr ⟨rfl, rfl, hc, fun m hm => ((noA hA0 m hm).elim)⟩, hcc, hn, by omega, rfl, rfl⟩
    · refine ifT (by exact gT (by omega)) fun h => ?_
      (try rw [h]); clear h
      cbv
      (try simp only [ncast] at *)
      (try simp only [ea, eb])
      refine tr_a.rd hA (by omega) (by omega) fun c1 d1 hc1 hd1 => ?_
      rw [show o + (0 : Int).toNat = o by simp] at hc1
      cbv
      (try simp only [ncast] at *)
      (try simp only [ea, eb])
      refine rdW hd1 fun w1 hw1 => ?_
      cbv
      (try simp only [ncast] at *)
      (try simp only [ea, eb])
      refine tr_b.rd hA (by omega) (by omega) fun c2 d2 hc2 hd2 => ?_
      rw [show p + (0 : Int).toNat = p by simp] at hc2
      cbv
      (try simp only [ncast] at *)
      (try simp only [ea, eb])
      refine rdW hd2 fun w2 hw2 => ?_
      cbv
      (try simp only [ncast] at *)
      (try simp only [ea, eb])
      refine ifB_intro (fun h => ?_) (fun h => ?_)
      · have hle := h
        (try simp only [wA hA] at hle)
        (try rw [h]); clear h
        cbv
        (try simp only [ncast] at *)
        have hW : ∀ q, b[p]? = some q → ∀ c, a[o]? = some c → c.w ≤ q.w := fun q h1 c h2 => by
          rw [hc2] at h1; rw [hc1] at h2
          obtain rfl := Option.some.inj h1
          obtain rfl := Option.some.inj h2
          omega
        (try simp only [ea, eb])
        refine tr_a.rd hA (by omega) (by omega) fun c cc hc hcc => ?_
        rw [show o + (0 : Int).toNat = o by simp] at hc
        cbv
        (try simp only [ncast] at *)
        (try simp only [ea, eb])
        refine ⟨by simp only [ge0A hA]; decide, by simp only [leIA hA]; omega, by simp only [leIA hA]; omega, ?_⟩
        (try simp only [e5, e6])
        subst hA hq
        exact ⟨c, cc, o + 1, n - 1, p, k, .inl ⟨rfl, rfl, hc, fun m hm => (hW m hm _ hc)⟩, hcc, by omega, hk, rfl, rfl⟩
      · have hgt := h
        (try simp only [wA hA] at hgt)
        (try rw [h]); clear h
        cbv
        (try simp only [ncast] at *)
        have hW : ∀ q, a[o]? = some q → ∀ c, b[p]? = some c → c.w < q.w := fun q h1 c h2 => by
          rw [hc1] at h1; rw [hc2] at h2
          obtain rfl := Option.some.inj h1
          obtain rfl := Option.some.inj h2
          omega
        (try simp only [ea, eb])
        refine tr_b.rd hA (by omega) (by omega) fun c cc hc hcc => ?_
        rw [show p + (0 : Int).toNat = p by simp] at hc
        cbv
        (try simp only [ncast] at *)
        (try simp only [ea, eb])
        refine ⟨by simp only [ge0A hA]; decide, by simp only [leIA hA]; omega, ?_⟩
        (try simp only [e7, e8])
        subst hA hq
        exact ⟨c, cc, o, n, p + 1, k - 1, .inr ⟨rfl, rfl, hc, fun m hm => (hW m hm _ hc)⟩, hcc, hn, by omega, rfl, rfl⟩
section
variable {A : Ar} {C : CallT} {s : St} {κ : List Nat → SV → List Ck → Prop}
theorem call_least (hC : C = CallX prog) {a b : List Tr} {hb o n p k : Nat} {cs ds : List SV} (tr_a : TRs a cs) (tr_b : TRs b ds) (hn : o + n = a.length) (hk' : p + k = b.length) (hl : a.length ≤ 1000000) (hl2 : b.length ≤ 1000000) (hne : 0 < n + k) (h4 : s.H[hb]? = some (.lst 41 1 ds))
    (hk : ∀ t c o' n' p' k', LsR a b o p t o' p' → c = t.cs → o' + n' = a.length → p' + k' = b.length → κ [hb] (.tup [.fp 0 c, .fz o' n' cs, .tl hb p' k']) (s.H.set hb (.lst 41 1 ds))) : C 33 [.fz o n cs, .tl hb p k] s κ := by
  refine cal_of hC (s_least a b o n p k cs ds tr_a tr_b hn hk' hl hl2 hne) [(hb, 0, true)] ⟨by simp, trivial⟩ ⟨rfl, tr_b.hLts _, tr_b.zOks _, ?_, trivial⟩ ⟨⟨trivial, trivial, rfl⟩, ⟨(show 0 < 1 by omega), rfl, rfl⟩, trivial⟩ ?_
  · show _ = some (Ck.lst _ _ (ds.map _))
    rw [tr_b.ren]; exact h4
  rintro _ _ ⟨t, c, o', n', p', k', h1, h2, h3, h5, rfl, rfl⟩
  refine ⟨_, _, _, rfl, rfl, ?_, hk t c o' n' p' k' h1 h2 h3 h5⟩
  simp only [backH, setAll, List.map_cons, List.map_nil, renCk, tr_b.ren, List.drop_succ_cons, List.drop_nil, List.append_nil, List.length_cons, List.length_nil]
end

/-- All weights together. -/
def sumW (l : List Tr) : Int := (l.map Tr.w).sum
theorem sumW_cons (t : Tr) (l : List Tr) : sumW (t :: l) = t.w + sumW l := by simp [sumW]
theorem sumW_app (l m : List Tr) : sumW (l ++ m) = sumW l + sumW m := by simp [sumW]
theorem sumW_nn {l : List Tr} (h : ∀ t ∈ l, 0 ≤ t.w) : 0 ≤ sumW l := by
  induction l with
  | nil => simp [sumW]
  | cons t l ih => rw [sumW_cons]; have := h t (by simp); have := ih fun u hu => h u (by simp [hu]); omega
theorem LsR.sum {a b : List Tr} {o p o' p' : Nat} {t : Tr} (h : LsR a b o p t o' p') : sumW (a.drop o) + sumW (b.drop p) = t.w + (sumW (a.drop o') + sumW (b.drop p')) := by
  rcases h with ⟨rfl, rfl, h1, _⟩ | ⟨rfl, rfl, h1, _⟩
  · obtain ⟨h3, rfl⟩ := List.getElem?_eq_some_iff.1 h1
    rw [List.drop_eq_getElem_cons h3, sumW_cons]; omega
  · obtain ⟨h3, rfl⟩ := List.getElem?_eq_some_iff.1 h1
    rw [List.drop_eq_getElem_cons h3, sumW_cons]; omega
theorem LsR.mem {a b : List Tr} {o p o' p' : Nat} {t : Tr} (h : LsR a b o p t o' p') : t ∈ a ∨ t ∈ b := by
  rcases h with ⟨_, _, h1, _⟩ | ⟨_, _, h1, _⟩
  · exact .inl (List.mem_of_getElem? h1)
  · exact .inr (List.mem_of_getElem? h1)
theorem LsR.sz {a b : List Tr} {o p o' p' : Nat} {t : Tr} (h : LsR a b o p t o' p') : o' + p' = o + p + 1 ∧ o ≤ o' ∧ p ≤ p' := by
  rcases h with ⟨rfl, rfl, _⟩ | ⟨rfl, rfl, _⟩ <;> omega

theorem s_huffman (a : List Tr) (n : Nat) (cs : List SV) (tr_a : TRs a cs) (hn : n = a.length) (hl : a.length ≤ 100000) (h2 : 2 ≤ a.length) (hw : ∀ t ∈ a, 0 ≤ t.w) (hW : sumW a ≤ 4000000000000000000) :
    Spec prog 23 [.fz 0 n cs] [] (fun r H => ∃ c, c = (hufM (a.length - 1) a []).cs ∧ r = .fp 0 c ∧ H = []) := by
  refine Spec_of_kF (D := fun i => if i = 6 then (15, []) else (0, [])) (ks := [0, 2, 3, 4, 5, 6]) tok mixed (fn := f23) rfl rfl rfl (by kernel_rfl) (N := 47) rfl (rs := [.tmp 2]) rfl (Nat.le_of_ble_eq_true rfl) fun A C Kp E ag L q hA hC hK hE hag hL hq => ?_
  cbv
  (try simp only [ncast] at *)
  rw [hL]
  refine ⟨fun kk s => ∃ (o na p nb : Nat) (b : List Tr) (ds : List SV), o + na = a.length ∧ p + nb = b.length ∧ kk + 1 = na + nb ∧ b.length + kk + 1 ≤ a.length ∧ (kk + 1 < a.length → 1 ≤ nb) ∧ hufM kk (a.drop o) (b.drop p) = hufM (a.length - 1) a [] ∧ (∀ t ∈ b, 0 ≤ t.w) ∧ sumW (a.drop o) + sumW (b.drop p) = sumW a ∧ TRs b ds ∧
      s = ⟨[(3, .fz o na cs), (4, .tl 0 p nb)], [.lst 41 1 ds]⟩,
    ⟨a.length - 1, ⟨[(3, .fz 0 n cs), (4, .tl 0 0 0)], [.lst 41 1 []]⟩, ?_, 0, n, 0, 0, [], [], by omega, rfl, by omega, by simp; omega, by omega, rfl, by simp, by simp [sumW], TRs.nil, rfl⟩, ?_⟩
  · have tr_0 : TRs [] [] := TRs.nil
    refine (Sub_nilT (i := 4) 41 1 rfl).trans ((Sub_tl 4 rfl).trans ?_)
    exact Sc [0] (by repeat' (first | exact trivial | exact fun _ => rfl | exact fun h => absurd h (by simp) | exact subC_ints rfl | exact subC_tr tr_0 rfl | exact subC_trv tr_0 rfl rfl | refine And.intro ?_ ?_ | rfl | (simp [subH_nil, hLts, hLt, renCk, renC, sg, Ck.cells, R_ints_ren, R_ints_hLts]; done)))
  rintro kk _ ⟨o, na, p, nb, b, ds, ho, hp, hkk, hbl, hb1, hh, hbw, hsum, tr_b, rfl⟩
  have ea : A.nat na = (na : Int) := natA hA na
  have eb : A.nat nb = (nb : Int) := natA hA nb
  have e0 : A.bin .add .i64 (A.nat na) (A.nat nb) = ((na + nb : Nat) : Int) := by rw [addA hA, ea, eb, wrap64 (by omega)]; omega
  obtain ⟨tI, htI⟩ : ∃ z : Int, z = ((na + nb : Nat) : Int) := ⟨_, rfl⟩
  rw [← htI] at e0
  cbv
  (try simp only [ncast] at *)
  simp only [e0]
  refine ifB_intro (fun h => ?_) (fun h => ?_)
  · have hgt := h
    (try simp only [wA hA] at hgt)
    (try rw [h]); clear h
    cbv
    (try simp only [ncast] at *)
    obtain ⟨kk, rfl⟩ : ∃ k, kk = k + 1 := ⟨kk - 1, by omega⟩
    refine call_least hC tr_a tr_b ho hp (by omega) (by omega) (by omega) rfl fun t1 c1 o1 n1 p1 k1 hL1 hc1 ho1 hp1 => ?_
    cbv
    (try simp only [ncast] at *)
    have z1 := hL1.sz
    refine call_least hC tr_a tr_b ho1 hp1 (by omega) (by omega) (by omega) rfl fun t2 c2 o2 n2 p2 k2 hL2 hc2 ho2 hp2 => ?_
    cbv
    (try simp only [ncast] at *)
    have z2 := hL2.sz
    refine rdW hc1 fun w1 hw1 => ?_
    cbv
    (try simp only [ncast] at *)
    refine rdW hc2 fun w2 hw2 => ?_
    cbv
    (try simp only [ncast] at *)
    have q1 := hL1.sum
    have q2 := hL2.sum
    have nn1 : 0 ≤ t1.w := by
      rcases hL1.mem with h | h
      · exact hw _ h
      · exact hbw _ h
    have nn2 : 0 ≤ t2.w := by
      rcases hL2.mem with h | h
      · exact hw _ h
      · exact hbw _ h
    have nn3 : 0 ≤ sumW (a.drop o2) := sumW_nn fun t ht => hw t (List.mem_of_mem_drop ht)
    have nn4 : 0 ≤ sumW (b.drop p2) := sumW_nn fun t ht => hbw t (List.mem_of_mem_drop ht)
    have e3 : A.bin .add .i64 w1 w2 = w1 + w2 := by rw [addA hA, wrap64 (by omega)]
    obtain ⟨ws, hws⟩ : ∃ z, z = w1 + w2 := ⟨_, rfl⟩
    rw [← hws] at e3
    simp only [e3]
    have e4 : A.add k2 1 = k2 + 1 := addNA hA k2 1
    have e5 : A.add p2 k2 = b.length := by rw [addNA hA]; exact hp2
    refine ⟨?_, ?_⟩
    · simp only [e5]
      subst hA
      show ds.length = b.length * 1
      rw [tr_b.len]; omega
    refine ⟨?_, ⟨fun p3 ds3 h3 => ?_⟩⟩
    · simp only [fitA hA, addNA hA]; unfold room; omega
    obtain ⟨b3, tr_3, hb3, hb3l, hb3b, hb3m⟩ : ∃ b3, TRs b3 ds3 ∧ b3.drop p3 = b.drop p2 ∧ p3 + k2 = b3.length ∧ b3.length ≤ b.length ∧ ∀ t ∈ b3, t ∈ b := by
      rcases h3 with ⟨rfl, rfl⟩ | ⟨rfl, rfl⟩
      · exact ⟨b, tr_b, rfl, hp2, Nat.le_refl _, fun t h => h⟩
      · refine ⟨b.drop p2, ⟨?_⟩, rfl, by rw [List.length_drop]; omega, by rw [List.length_drop]; omega, fun t h => List.mem_of_mem_drop h⟩
        rw [tr_b.eq]; simp [trs, List.map_drop]
    obtain ⟨bc, hbc⟩ : ∃ bc, bc = [SV.int .i64 ws, .int .i64 (-1), .fp 0 c1, .fp 0 c2] := ⟨_, rfl⟩
    obtain ⟨nd, hnd⟩ : ∃ nd, nd = Tr.nd (t1.w + t2.w) t1 t2 := ⟨_, rfl⟩
    have hbt : bc = nd.cs := by rw [hbc, hnd, hws, hw1, hw2, hc1, hc2]; rfl
    have tr_n : TRs (b3 ++ [nd]) ((apd ds3 [.ptr 1 0]).map (frzC true 1 bc)) := by
      have := tr_3.app nd
      rw [apd_eq] at this ⊢
      rw [List.map_append, frz_imms tr_3.imm, hbt]
      exact this
    have hdn : (b3 ++ [nd]).drop p3 = b.drop p2 ++ [nd] := by rw [List.drop_append_of_le_length (by omega), hb3]
    have hh2 : hufM kk (a.drop o2) ((b3 ++ [nd]).drop p3) = hufM (a.length - 1) a [] := by
      rw [← hh, hdn]
      simp only [hufM, hL1.tk, hL2.tk]
      rw [hnd]
    have hs2 : sumW (a.drop o2) + sumW ((b3 ++ [nd]).drop p3) = sumW a := by
      rw [hdn, sumW_app]
      have : sumW [nd] = t1.w + t2.w := by rw [hnd]; simp [sumW, Tr.w]
      omega
    cbv
    (try simp only [ncast] at *)
    (try simp only [e3, e4, ← hbc])
    subst hag
    refine again_sub (Sub_frz 1 rfl (.inl ⟨rfl, _, rfl⟩) (by rw [hbt]; exact Tr.imm _)) ?_
    subst hA
    refine ⟨kk, ⟨[(3, .fz o2 n2 cs), (4, .tl 0 p3 (k2 + 1))], [.lst 41 1 _]⟩, by omega, ?_, o2, n2, p3, k2 + 1, b3 ++ [nd], _, by omega, by simp; omega, by omega, by simp; omega, fun _ => by omega, hh2, ?_, hs2, tr_n, rfl⟩
    · exact Sd [3] (by repeat' (first | exact trivial | exact fun _ => rfl | exact fun h => absurd h (by simp) | exact subC_ints rfl | exact subC_tr tr_n rfl | exact subC_trv tr_n rfl rfl | refine And.intro ?_ ?_ | rfl | (simp [subH_nil, hLts, hLt, renCk, renC, sg, Ck.cells, R_ints_ren, R_ints_hLts, frzS]; done))) (by repeat' (first | exact trivial | exact .inr ⟨trivial, rfl⟩ | exact .inr ⟨by simp [vOk, hLt, hLts, frzS], rfl⟩ | refine And.intro ?_ ?_))
    · intro t ht
      rcases List.mem_append.1 ht with ht | ht
      · exact hbw t (hb3m t ht)
      · obtain rfl := List.mem_singleton.1 ht
        rw [hnd]; show 0 ≤ t1.w + t2.w
        omega
  · have hle := h
    (try simp only [wA hA] at hle)
    (try rw [h]); clear h
    cbv
    (try simp only [ncast] at *)
    have hkk0 : kk = 0 := by omega
    subst hkk0
    have hnb := hb1 (by omega)
    refine tr_b.rd hA (by omega) (by omega) fun t c ht hc => ?_
    rw [show p + (0 : Int).toNat = p by simp] at ht
    cbv
    (try simp only [ncast] at *)
    subst hA hq
    refine Fin_of ⟨[(2, .fp 0 c)], []⟩ ?_ ⟨c, ?_, rfl, rfl⟩
    · exact Sb []
    · rw [hc, ← hh]
      simp only [hufM]
      have : (b.drop p).headD default = t := by
        obtain ⟨h3, rfl⟩ := List.getElem?_eq_some_iff.1 ht
        rw [List.drop_eq_getElem_cons h3]; rfl
      rw [this]
section
variable {A : Ar} {C : CallT} {s : St} {κ : List Nat → SV → List Ck → Prop}
theorem call_huffman (hC : C = CallX prog) {a : List Tr} {n : Nat} {cs : List SV} (tr_a : TRs a cs) (hn : n = a.length) (hl : a.length ≤ 100000) (h2 : 2 ≤ a.length) (hw : ∀ t ∈ a, 0 ≤ t.w) (hW : sumW a ≤ 4000000000000000000) (hk : ∀ c, c = (hufM (a.length - 1) a []).cs → κ [] (.fp 0 c) s.H) :
    C 23 [.fz 0 n cs] s κ := by
  refine cal_of hC (s_huffman a n cs tr_a hn hl h2 hw hW) [] trivial trivial ⟨⟨trivial, trivial, rfl⟩, trivial⟩ ?_
  rintro _ _ ⟨c, hc, rfl, rfl⟩
  refine ⟨_, _, s.H, rfl, rfl, ?_, hk c hc⟩
  simp [backH, setAll]
end
end Go.Sx

/- limit: a slice cleared; how deep coins lie; how often they come. -/
set_option maxRecDepth 100000
set_option maxHeartbeats 8000000
set_option linter.unusedVariables false
set_option linter.unusedSimpArgs false
namespace Go.Sx
open Go.Proofs.Try

/-- A slice of elements of one cell is cleared. -/
theorem hk_sclear {Γ : Gam} {P : Program} {E : HkE} (hE : E = HookE P) {tt : Nat → Option TI} (tok : TIok P tt) {s : St} {o : Oper} {κ : List Nat → SV → List Ck → Prop} {T e : Nat} {x : Operand} {t1 : Nat} {zs : List Value} {by1 by2 : Nat} {d : TD} {z0 : Value}
    (ho : o.op = .call ⟨.builtin .clear, #[x], #[T]⟩) (ht : tt T = some ⟨.slice e, t1, by1, zs⟩) (hj : tt e = some ⟨d, 1, by2, [z0]⟩) (h1 : z0.oneCell' = true) {h n : Nat} {cs : List SV} (hx : s.ev x = .lst h n) (hh : s.H[h]? = some (.lst e 1 cs)) (hl : cs.length = n)
    (hk : κ [h] (.tup []) (s.H.set h (.lst e 1 (List.replicate n (SV.of z0))))) : E s o κ := by
  subst hE
  intro G N ρ a w hΓ hr
  have hvx := ev_run hr x
  rw [hx] at hvx
  obtain ⟨inf, dd, z, k1, k2, k3, k4⟩ := tiv_some (tok _ _ ht)
  injection k4 with e1; have hd := TD_slice e1.symm; subst hd
  obtain ⟨inf', d', zv, k1', k2', k3', k4'⟩ := tiv_some (tok _ _ hj)
  injection k4' with _ e2 _ e3
  have hzc : zv.cells = #[z0] := by
    have := congrArg List.toArray e3.symm
    simpa using this
  have hzv : ∀ w, (zeroValue e).run P w = .ok zv w := fun w => by simp [zeroValue, typeInfo, k1', k3']
  have hck := hr.hp.at_ h _ hh
  have hvt : VR ρ (.tup []) (.tuple #[]) := ⟨[], rfl, rfl, fun i x y hx _ => by cases hx⟩
  unfold effV
  have same : cs = List.replicate n (SV.of z0) → Rel G N ρ { s with H := s.H.set h (.lst e 1 (List.replicate n (SV.of z0))) } a w := fun hc => by
    have e : s.H.set h (.lst e 1 cs) = s.H := by
      refine List.ext_getElem? fun i => ?_
      rw [List.getElem?_set]
      split
      · rename_i hi
        subst hi
        rw [if_pos (List.getElem?_eq_some_iff.1 hh).1, hh]
      · rfl
    rw [← hc, e]
    exact hr
  have stay : cs = [] → n = 0 → (Builtin.clear_ #[T] o.type #[a.eval x]).run P w = .ok (.tuple #[]) w → (match (execOp a.eval o).run P w with
      | .ok (.value v) w' => ∃ U sv H' ρ', κ U sv H' ∧ VR ρ' sv v ∧ Rel G N ρ' { s with H := H' } a w' ∧ ρ.Le ρ' ∧ ∀ b, b < w.heap.size → (∀ h ∈ U, ∀ c, s.H[h]? = some c → Owns ρ h c → (ρ h).blk ≠ b) → w'.heap[b]? = w.heap[b]?
      | .ok .skip w' => ∃ U sv H' ρ', κ U sv H' ∧ VR ρ' sv Go.undef ∧ Rel G N ρ' { s with H := H' } a w' ∧ ρ.Le ρ' ∧ ∀ b, b < w.heap.size → (∀ h ∈ U, ∀ c, s.H[h]? = some c → Owns ρ h c → (ρ h).blk ≠ b) → w'.heap[b]? = w.heap[b]?
      | .ok (.enter f args) w' => Calls P f args w' fun e w'' => ∃ v, e = .returned v ∧ ∃ U sv H' ρ', κ U sv H' ∧ VR ρ' sv v ∧ Rel G N ρ' { s with H := H' } a w'' ∧ ρ.Le ρ' ∧ ∀ b, b < w.heap.size → (∀ h ∈ U, ∀ c, s.H[h]? = some c → Owns ρ h c → (ρ h).blk ≠ b) → w''.heap[b]? = w.heap[b]?
      | _ => False) := fun hc hn hrun => by
    have hrun' : (execOp a.eval o).run P w = .ok (.value (.tuple #[])) w := by simp [execOp, ho, resolve, invoke, builtin, hrun]
    rw [hrun']
    exact ⟨[h], _, _, ρ, hk, hvt, same (by rw [hc, hn]; rfl), Env.Le.refl _, fun _ _ _ => rfl⟩
  rcases hvx with ⟨hlt, ⟨hnil, h0, hv⟩ | ⟨hnil, hcap, hv⟩⟩
  · refine stay (List.eq_nil_of_length_eq_zero (by omega)) h0 ?_
    rw [hv]; simp [Builtin.clear_, run_underlying k2]
  · rcases hck with ⟨hnil', _⟩ | ⟨_, hbase, arr, n', harr, q4, q5, q6, q7, hall⟩
    · rw [hnil] at hnil'; cases hnil'
    · rcases Nat.eq_zero_or_pos n with hn0 | hn0
      · refine stay (List.eq_nil_of_length_eq_zero (by omega)) hn0 ?_
        rw [hv, hn0]; simp [Builtin.clear_, run_underlying k2]
      · have hfit : 0 + 0 + (List.replicate n z0).length ≤ arr.size := by rw [List.length_replicate, q7]; omega
        have hst := run_storeCells_at P (ρ h).blk 0 e (List.replicate n z0) 0 arr w harr hfit (fun v hv => by rw [List.eq_of_mem_replicate hv]; exact h1)
        have hzl : (Builtin.zeroCells zv.cells n).toList = List.replicate n z0 := by
          rw [hzc]
          simp [Builtin.zeroCells]
          apply List.ext_getElem
          · simp
          · intro i h1 h2
            simp [Nat.mod_one]
        simp only [Nat.zero_add, List.take_zero, List.nil_append, List.length_replicate] at hst
        have hrun : (Builtin.clear_ #[T] o.type #[a.eval x]).run P w = .ok (.tuple #[]) (w.setRow (ρ h).blk (List.replicate n z0 ++ arr.toList.drop n).toArray) := by
          rw [hv, hbase]
          obtain ⟨m, rfl⟩ : ∃ m, n = m + 1 := ⟨n - 1, by omega⟩
          simp [Builtin.clear_, run_underlying k2, hzv, hzl, hst]
        have hrun' : (execOp a.eval o).run P w = .ok (.value (.tuple #[])) (w.setRow (ρ h).blk (List.replicate n z0 ++ arr.toList.drop n).toArray) := by simp [execOp, ho, resolve, invoke, builtin, hrun]
        rw [hrun']
        have hown : Owns ρ h (.lst e 1 cs) := hnil
        refine ⟨[h], _, _, ρ, hk, hvt, hr.upd (c' := .lst e 1 (List.replicate n (SV.of z0))) hh hown rfl rfl rfl (by simp [World.setRow]) (fun k _ hk => setRow_other w _ k _ hk) (.inr ⟨hnil, hbase, _, n, setRow_heap w _ arr _ e _ harr, by simp, hcap, q6, ?_, ?_⟩) (by simp), Env.Le.refl _, fun b hb hne => setRow_other w _ b _ (Ne.symm (hne h (by simp) _ hh hown))⟩
        · simp only [List.size_toArray, List.length_append, List.length_replicate, List.length_drop, Array.length_toList]; omega
        · rw [List.length_replicate]
          have : ((List.replicate n z0 ++ arr.toList.drop n).toArray.toList.take n) = List.replicate n z0 := by
            simp [List.take_append]
          rw [this]
          refine ⟨by simp, fun i x y hx hy => ?_⟩
          rw [List.getElem?_replicate] at hx hy
          split at hx
          · rename_i hi
            rw [if_pos hi] at hy
            obtain rfl := Option.some.inj hx
            obtain rfl := Option.some.inj hy
            exact CR_of
          · cases hx
end Go.Sx

/- limit: how deep coins lie; how often they come; the greatest; which frequencies may be. -/
set_option maxRecDepth 100000
set_option maxHeartbeats 8000000
set_option linter.unusedVariables false
set_option linter.unusedSimpArgs false
namespace Go.Sx
open Go.Proofs.Try

def Tr.ok (n : Nat) : Tr → Prop
  | .leaf _ s => 0 ≤ s ∧ s < n
  | .nd _ a b => a.ok n ∧ b.ok n
def Tr.ht : Tr → Nat
  | .leaf _ _ => 0
  | .nd _ a b => max a.ht b.ht + 1
def Tr.nl : Tr → Nat
  | .leaf _ _ => 1
  | .nd _ a b => a.nl + b.nl
def deepM : Tr → List Int → Int → List Int
  | .leaf _ s, l, d => l.set s.toNat d
  | .nd _ a b, l, d => deepM b (deepM a l (d + 1)) (d + 1)
def countM : Tr → List Int → List Int
  | .leaf _ s, l => l.set s.toNat (l.getD s.toNat 0 + 1)
  | .nd _ a b, l => countM b (countM a l)
theorem deepM_len : ∀ (t : Tr) (l : List Int) (d : Int), (deepM t l d).length = l.length
  | .leaf _ _, l, d => by simp [deepM]
  | .nd _ a b, l, d => by simp [deepM, deepM_len]
theorem countM_len : ∀ (t : Tr) (l : List Int), (countM t l).length = l.length
  | .leaf _ _, l => by simp [countM]
  | .nd _ a b, l => by simp [countM, countM_len]
theorem countM_bnd : ∀ (t : Tr) (l : List Int) (m : Int), 0 ≤ m → (∀ x ∈ l, 0 ≤ x ∧ x ≤ m) → ∀ x ∈ countM t l, 0 ≤ x ∧ x ≤ m + t.nl
  | .leaf _ s, l, m, hm, h, x, hx => by
    rcases List.mem_or_eq_of_mem_set hx with hx | hx
    · have := h x hx; simp [Tr.nl]; omega
    · have : 0 ≤ l.getD s.toNat 0 ∧ l.getD s.toNat 0 ≤ m := by
        rcases Nat.lt_or_ge s.toNat l.length with hl | hl
        · have h1 : l.getD s.toNat 0 ∈ l := by simp [List.getD, hl]
          exact h _ h1
        · have : l.getD s.toNat 0 = 0 := by simp [List.getD, hl]
          omega
      rw [hx]; simp only [Tr.nl]; omega
  | .nd _ a b, l, m, hm, h, x, hx => by
    have h1 := countM_bnd a l m hm h
    have h2 := countM_bnd b _ _ (by omega) h1 x hx
    simp only [Tr.nl]
    omega

def DeepSpec (t : Tr) : Prop := ∀ (l : List Int) (n : Nat) (d : Int) (c : List SV), c = t.cs → n = l.length → t.ok n → 0 ≤ d → d + t.ht ≤ 1000000 → l.length ≤ 1000000 →
  Spec prog 24 [.fp 0 c, .lst 0 n, .int .i64 d] [.lst 3 1 (R.ints .i64 l)] (fun r H => r = .tup [] ∧ H = [.lst 3 1 (R.ints .i64 (deepM t l d))])
section
variable {A : Ar} {C : CallT} {s : St} {κ : List Nat → SV → List Ck → Prop}
theorem call_deep (hC : C = CallX prog) (hA : A = R) {t : Tr} (hS : DeepSpec t) {l : List Int} {hb n : Nat} {d : Int} {c : List SV} (hc : c = t.cs) (hn : n = l.length) (hok : t.ok n) (h0 : 0 ≤ d) (h1 : d + t.ht ≤ 1000000) (hl : l.length ≤ 1000000)
    (h4 : s.H[hb]? = some (.lst 3 1 (A.ints .i64 l))) (hk : ∀ l', l' = deepM t l d → κ [hb] (.tup []) (s.H.set hb (.lst 3 1 (A.ints .i64 l')))) : C 24 [.fp 0 c, .lst hb n, .int .i64 d] s κ := by
  have hS := hS l n d c hc hn hok h0 h1 hl
  rw [← hA] at hS
  refine cal_of hC hS [(hb, 0, true)] ⟨by simp, trivial⟩ ⟨rfl, hLtsA hA .., zOksA hA .., ?_, trivial⟩ ⟨⟨trivial, trivial, rfl⟩, ⟨(show 0 < 1 by omega), rfl, rfl⟩, ⟨trivial, trivial, rfl⟩, trivial⟩ ?_
  · show _ = some (Ck.lst _ _ ((A.ints .i64 l).map _))
    rw [renA hA]; exact h4
  rintro _ _ ⟨rfl, rfl⟩
  refine ⟨_, _, _, rfl, rfl, ?_, hk _ rfl⟩
  simp only [backH, setAll, List.map_cons, List.map_nil, renCk, renA hA, List.drop_succ_cons, List.drop_nil, List.append_nil, List.length_cons, List.length_nil]
end
theorem s_deep_leaf (w s : Int) : DeepSpec (.leaf w s) := by
  intro l n d c hc hn hok h0 h1 hl
  obtain ⟨hs0, hs1⟩ := hok
  refine Spec_of_kX (D := fun i => (0, [])) (ks := [0, 1, 2]) tok mixed (fn := f24) rfl rfl rfl (by kernel_rfl) (N := 34) rfl (rs := []) rfl (Nat.le_of_ble_eq_true rfl) fun A C Kp E ag L q hA hC hK hE hag hL hq => ?_
  rw [← hA]
  have hc : c = [.int .i64 w, .int .i64 s, .nilP, .nilP] := hc
  have gT : A.cmp .geq s 0 = true := by rw [geqA hA]; exact decide_eq_true hs0
  subst hc
  cbv
  (try simp only [ncast] at *)
  refine ifT (by exact gT) fun h => ?_
  (try rw [h]); clear h
  cbv
  (try simp only [ncast] at *)
  refine wrA hA (by omega) (by omega) fun l' hl' => ?_
  cbv
  (try simp only [ncast] at *)
  subst hA hq
  refine ⟨rfl, ?_⟩
  rw [hl', show 0 + s.toNat = s.toNat by omega]
  rfl
theorem s_deep_nd (w : Int) (a b : Tr) (ha : DeepSpec a) (hb : DeepSpec b) : DeepSpec (.nd w a b) := by
  intro l n d c hc hn hok h0 h1 hl
  obtain ⟨hoa, hob⟩ := hok
  refine Spec_of_kX (D := fun i => (0, [])) (ks := [0, 1, 2]) tok mixed (fn := f24) rfl rfl rfl (by kernel_rfl) (N := 34) rfl (rs := []) rfl (Nat.le_of_ble_eq_true rfl) fun A C Kp E ag L q hA hC hK hE hag hL hq => ?_
  rw [← hA]
  have hc : c = [.int .i64 w, .int .i64 (-1), .fp 0 a.cs, .fp 0 b.cs] := hc
  obtain ⟨ca, hca⟩ : ∃ x, x = a.cs := ⟨_, rfl⟩
  obtain ⟨cb, hcb⟩ : ∃ x, x = b.cs := ⟨_, rfl⟩
  rw [← hca, ← hcb] at hc
  have gF : A.cmp .geq (-1) 0 = false := by rw [geqA hA]; rfl
  have e1 : A.bin .add .i64 d 1 = d + 1 := by rw [addA hA, wrap64 (by omega)]
  obtain ⟨d1, hd1⟩ : ∃ z, z = d + 1 := ⟨_, rfl⟩
  rw [← hd1] at e1
  have hht : a.ht + 1 ≤ (Tr.nd w a b).ht ∧ b.ht + 1 ≤ (Tr.nd w a b).ht := by simp only [Tr.ht]; omega
  obtain ⟨x, hx⟩ : ∃ x, x = (Tr.nd w a b).ht := ⟨_, rfl⟩
  rw [← hx] at hht h1
  have hre : deepM (.nd w a b) l d = deepM b (deepM a l d1) d1 := by rw [hd1]; rfl
  rw [hre] at hq
  subst hc
  cbv
  (try simp only [ncast] at *)
  refine ifF (by exact gF) fun h => ?_
  (try rw [h]); clear h
  cbv
  (try simp only [ncast] at *)
  simp only [e1]
  refine call_deep hC hA ha hca hn hoa (by omega) (by omega) hl rfl fun l1 hl1 => ?_
  have hl1l : l1.length = l.length := by rw [hl1, deepM_len]
  cbv
  (try simp only [ncast] at *)
  simp only [e1]
  refine call_deep hC hA hb hcb (by omega) hob (by omega) (by omega) (by omega) rfl fun l2 hl2 => ?_
  cbv
  (try simp only [ncast] at *)
  subst hA hq
  exact ⟨rfl, by rw [hl2, hl1] <;> try rfl⟩
theorem s_deep : ∀ t : Tr, DeepSpec t
  | .leaf w s => s_deep_leaf w s
  | .nd w a b => s_deep_nd w a b (s_deep a) (s_deep b)

def CountSpec (t : Tr) : Prop := ∀ (l : List Int) (n : Nat) (c : List SV) (m : Int), c = t.cs → n = l.length → t.ok n → 0 ≤ m → (∀ x ∈ l, 0 ≤ x ∧ x ≤ m) → m + t.nl ≤ 1000000000000 → l.length ≤ 1000000 →
  Spec prog 28 [.fp 0 c, .lst 0 n] [.lst 3 1 (R.ints .i64 l)] (fun r H => r = .tup [] ∧ H = [.lst 3 1 (R.ints .i64 (countM t l))])
section
variable {A : Ar} {C : CallT} {s : St} {κ : List Nat → SV → List Ck → Prop}
theorem call_count (hC : C = CallX prog) (hA : A = R) {t : Tr} (hS : CountSpec t) {l : List Int} {hb n : Nat} {c : List SV} {m : Int} (hc : c = t.cs) (hn : n = l.length) (hok : t.ok n) (hm0 : 0 ≤ m) (h0 : ∀ x ∈ l, 0 ≤ x ∧ x ≤ m) (h1 : m + t.nl ≤ 1000000000000) (hl : l.length ≤ 1000000)
    (h4 : s.H[hb]? = some (.lst 3 1 (A.ints .i64 l))) (hk : ∀ l', l' = countM t l → κ [hb] (.tup []) (s.H.set hb (.lst 3 1 (A.ints .i64 l')))) : C 28 [.fp 0 c, .lst hb n] s κ := by
  have hS := hS l n c m hc hn hok hm0 h0 h1 hl
  rw [← hA] at hS
  refine cal_of hC hS [(hb, 0, true)] ⟨by simp, trivial⟩ ⟨rfl, hLtsA hA .., zOksA hA .., ?_, trivial⟩ ⟨⟨trivial, trivial, rfl⟩, ⟨(show 0 < 1 by omega), rfl, rfl⟩, trivial⟩ ?_
  · show _ = some (Ck.lst _ _ ((A.ints .i64 l).map _))
    rw [renA hA]; exact h4
  rintro _ _ ⟨rfl, rfl⟩
  refine ⟨_, _, _, rfl, rfl, ?_, hk _ rfl⟩
  simp only [backH, setAll, List.map_cons, List.map_nil, renCk, renA hA, List.drop_succ_cons, List.drop_nil, List.append_nil, List.length_cons, List.length_nil]
end
theorem s_count_leaf (w s : Int) : CountSpec (.leaf w s) := by
  intro l n c m hc hn hok hm0 h0 h1 hl
  obtain ⟨hs0, hs1⟩ := hok
  refine Spec_of_kX (D := fun i => (0, [])) (ks := [0, 1]) tok mixed (fn := f28) rfl rfl rfl (by kernel_rfl) (N := 30) rfl (rs := []) rfl (Nat.le_of_ble_eq_true rfl) fun A C Kp E ag L q hA hC hK hE hag hL hq => ?_
  rw [← hA]
  have hc : c = [.int .i64 w, .int .i64 s, .nilP, .nilP] := hc
  have gT : A.cmp .geq s 0 = true := by rw [geqA hA]; exact decide_eq_true hs0
  have hm := h0 (l.getD s.toNat 0) (by simp [List.getD, show s.toNat < l.length by omega])
  simp only [Tr.nl] at h1
  subst hc
  cbv
  (try simp only [ncast] at *)
  refine ifT (by exact gT) fun h => ?_
  (try rw [h]); clear h
  cbv
  (try simp only [ncast] at *)
  refine rdA hA (by omega) (by omega) fun x hx => ?_
  rw [show 0 + s.toNat = s.toNat by omega] at hx
  have e1 : A.bin .add .i64 x 1 = x + 1 := by rw [addA hA, wrap64 (by omega)]
  cbv
  (try simp only [ncast] at *)
  simp only [e1]
  refine wrA hA (by omega) (by omega) fun l' hl' => ?_
  cbv
  (try simp only [ncast] at *)
  subst hA hq
  refine ⟨rfl, ?_⟩
  rw [hl', show 0 + s.toNat = s.toNat by omega, hx]
  rfl
theorem s_count_nd (w : Int) (a b : Tr) (ha : CountSpec a) (hb : CountSpec b) : CountSpec (.nd w a b) := by
  intro l n c m hc hn hok hm0 h0 h1 hl
  obtain ⟨hoa, hob⟩ := hok
  refine Spec_of_kX (D := fun i => (0, [])) (ks := [0, 1]) tok mixed (fn := f28) rfl rfl rfl (by kernel_rfl) (N := 30) rfl (rs := []) rfl (Nat.le_of_ble_eq_true rfl) fun A C Kp E ag L q hA hC hK hE hag hL hq => ?_
  rw [← hA]
  have hc : c = [.int .i64 w, .int .i64 (-1), .fp 0 a.cs, .fp 0 b.cs] := hc
  obtain ⟨ca, hca⟩ : ∃ x, x = a.cs := ⟨_, rfl⟩
  obtain ⟨cb, hcb⟩ : ∃ x, x = b.cs := ⟨_, rfl⟩
  rw [← hca, ← hcb] at hc
  have gF : A.cmp .geq (-1) 0 = false := by rw [geqA hA]; rfl
  simp only [Tr.nl] at h1
  have hb1 := countM_bnd a l m hm0 h0
  subst hc
  cbv
  (try simp only [ncast] at *)
  refine ifF (by exact gF) fun h => ?_
  (try rw [h]); clear h
  cbv
  (try simp only [ncast] at *)
  refine call_count hC hA ha hca hn hoa hm0 h0 (by omega) hl rfl fun l1 hl1 => ?_
  rw [← hl1] at hb1
  have hl1l : l1.length = l.length := by rw [hl1, countM_len]
  cbv
  (try simp only [ncast] at *)
  refine call_count hC hA hb hcb (by omega) hob (by omega) hb1 (by omega) (by omega) rfl fun l2 hl2 => ?_
  cbv
  (try simp only [ncast] at *)
  subst hA hq
  exact ⟨rfl, by rw [hl2, hl1] <;> try rfl⟩
theorem s_count : ∀ t : Tr, CountSpec t
  | .leaf w s => s_count_leaf w s
  | .nd w a b => s_count_nd w a b (s_count a) (s_count b)

def MaxQ (l : List Int) (m : Int) : Prop := m ∈ l ∧ ∀ x ∈ l, x ≤ m
theorem s_max (l : List Int) (n : Nat) (hn : n = l.length) (h0 : 0 < l.length) (hl : l.length ≤ 1000000) : Spec prog 25 [.sl 0 0 n false] [.vw (R.ints .i64 l)] (fun r H => ∃ m, MaxQ l m ∧ r = .int .i64 m ∧ H = [.vw (R.ints .i64 l)]) := by
  refine Spec_of_kX (D := fun i => (0, [])) (ks := [0, 2, 3, 4]) tok mixed (fn := f25) rfl rfl rfl (by kernel_rfl) (N := 25) rfl (rs := [.tmp 2]) rfl (Nat.le_of_ble_eq_true rfl) fun A C Kp E ag L q hA hC hK hE hag hL hq => ?_
  rw [← hA]
  have en : A.nat n = (n : Int) := natA hA n
  obtain ⟨nI, hnI⟩ : ∃ z : Int, z = (n : Int) := ⟨_, rfl⟩
  rw [← hnI] at en
  have lF : A.cmp .lss nI 1 = false := by rw [lssA hA]; exact decide_eq_false (by omega)
  cbv
  (try simp only [ncast] at *)
  simp only [en]
  refine ifF (by exact lF) fun h => ?_
  (try rw [h]); clear h
  cbv
  (try simp only [ncast] at *)
  refine rdA hA (by omega) (by omega) fun x hx => ?_
  cbv
  (try simp only [ncast] at *)
  (try simp only [en])
  rw [hL]
  refine loop_keep (fun kk s => ∃ (m i : Int) (j : Nat), i = j ∧ 1 ≤ j ∧ j ≤ l.length ∧ MaxQ (l.take j) m ∧ kk = l.length - j ∧ s = ⟨[(0, .sl 0 0 n false), (3, .int .i64 m), (4, .int .i64 i)], [.vw (A.ints .i64 l)]⟩)
    [0, 3, 4] (l.length - 1) ⟨x, 1, 1, rfl, by omega, by omega, ?_, rfl, rfl⟩ ?_
  · cases l with
    | nil => simp at h0
    | cons y r =>
      have : x = y := by rw [hx]; rfl
      subst this
      exact ⟨by simp, by simp⟩
  rintro kk _ ⟨m, i, j, hi, hj1, hjl, hM, hkk, rfl⟩
  cbv
  (try simp only [ncast] at *)
  (try simp only [en])
  refine ifB_intro (fun h => ?_) (fun h => ?_)
  · have hlt := h
    (try simp only [wA hA] at hlt)
    (try rw [h]); clear h
    cbv
    (try simp only [ncast] at *)
    refine rdA hA (by omega) (by omega) fun y hy => ?_
    rw [show 0 + i.toNat = j by omega] at hy
    have e1 : A.bin .add .i64 i 1 = i + 1 := by rw [addA hA, wrap64 (by omega)]
    cbv
    (try simp only [ncast] at *)
    (try simp only [en, e1])
    have htk : l.take (j + 1) = l.take j ++ [y] := by
      rw [List.take_add_one, hy]
      simp [List.getD, show j < l.length by omega]
    have hmx : A.mx m y = if m < y then y else m := mxA hA m y
    have hM2 : MaxQ (l.take (j + 1)) (A.mx m y) := by
      rw [hmx, htk]
      obtain ⟨k1, k2⟩ := hM
      split
      · refine ⟨by simp, fun z hz => ?_⟩
        rcases List.mem_append.1 hz with hz | hz
        · have := k2 z hz; omega
        · have := List.mem_singleton.1 hz; omega
      · refine ⟨by simp [k1], fun z hz => ?_⟩
        rcases List.mem_append.1 hz with hz | hz
        · exact k2 z hz
        · have := List.mem_singleton.1 hz; omega
    subst hag
    exact again_keep [0, 3, 4] (l.length - (j + 1)) (by omega) ⟨_, i + 1, j + 1, by omega, by omega, by omega, hM2, rfl, rfl⟩
  · have hge := h
    (try simp only [wA hA] at hge)
    (try rw [h]); clear h
    cbv
    (try simp only [ncast] at *)
    have hjl : j = l.length := by omega
    rw [hjl, List.take_length] at hM
    subst hA hq
    exact ⟨m, hM, rfl, rfl⟩
end Go.Sx

/- limit: plain laws of the model: leaves, levels. -/
set_option maxRecDepth 100000
set_option maxHeartbeats 4000000
set_option linter.unusedVariables false
set_option linter.unusedSimpArgs false
namespace Go.Sx
open Go.Proofs.Try

def Tr.lv : Tr → List Tr
  | .leaf w s => [.leaf w s]
  | .nd _ a b => a.lv ++ b.lv
theorem Tr.nl_lv : ∀ t : Tr, t.nl = t.lv.length
  | .leaf _ _ => rfl
  | .nd _ a b => by simp [Tr.nl, Tr.lv, Tr.nl_lv a, Tr.nl_lv b]
theorem Tr.ht_lt : ∀ t : Tr, t.ht < t.nl
  | .leaf _ _ => by simp [Tr.ht, Tr.nl]
  | .nd _ a b => by
    have h1 := a.ht_lt
    have h2 := b.ht_lt
    simp only [Tr.ht, Tr.nl]
    omega
theorem Tr.ok_lv {n : Nat} : ∀ t : Tr, t.ok n ↔ ∀ x ∈ t.lv, x.ok n
  | .leaf w s => by simp [Tr.lv]
  | .nd _ a b => by
    simp only [Tr.ok, Tr.lv, List.mem_append]
    rw [Tr.ok_lv a, Tr.ok_lv b]
    exact ⟨fun h x hx => hx.elim (h.1 x) (h.2 x), fun h => ⟨fun x hx => h x (.inl hx), fun x hx => h x (.inr hx)⟩⟩

theorem tk_perm : ∀ {cs ms : List Tr}, 0 < cs.length + ms.length → (cs ++ ms).Perm ((tk cs ms).1 :: ((tk cs ms).2.1 ++ (tk cs ms).2.2))
  | [], [], h => by simp at h
  | [], m :: ms, _ => by simp [tk]
  | c :: cs, [], _ => by simp [tk]
  | c :: cs, m :: ms, _ => by
    simp only [tk]
    split
    · simp
    · simpa using List.perm_middle (l₁ := c :: cs) (a := m) (l₂ := ms)
theorem tk_len {cs ms : List Tr} (h : 0 < cs.length + ms.length) : (tk cs ms).2.1.length + (tk cs ms).2.2.length + 1 = cs.length + ms.length := by
  have := (tk_perm h).length_eq
  simp at this
  omega
theorem hufM_lv : ∀ (k : Nat) (cs ms : List Tr), cs.length + ms.length = k + 1 → (k = 0 → ms ≠ []) → (hufM k cs ms).lv.Perm ((cs ++ ms).flatMap Tr.lv)
  | 0, cs, ms, h, h0 => by
    match ms, h0 rfl with
    | [m], _ =>
      have : cs = [] := List.eq_nil_of_length_eq_zero (by simpa using h)
      subst this
      simp [hufM]
    | m :: m2 :: r, _ => simp at h; omega
  | k + 1, cs, ms, h, _ => by
    have p1 := tk_perm (cs := cs) (ms := ms) (by omega)
    have l1 := tk_len (cs := cs) (ms := ms) (by omega)
    simp only [hufM]
    generalize tk cs ms = x at p1 l1 ⊢
    have p2 := tk_perm (cs := x.2.1) (ms := x.2.2) (by omega)
    have l2 := tk_len (cs := x.2.1) (ms := x.2.2) (by omega)
    generalize tk x.2.1 x.2.2 = y at p2 l2 ⊢
    refine (hufM_lv k _ _ (by simp; omega) (fun _ => by simp)).trans ?_
    have p3 : (cs ++ ms).Perm (x.1 :: y.1 :: (y.2.1 ++ y.2.2)) := p1.trans (p2.cons x.1)
    have p4 := p3.flatMap_right Tr.lv
    refine List.Perm.trans ?_ p4.symm
    rw [← List.append_assoc, List.flatMap_append]
    simp only [List.flatMap_cons, List.flatMap_nil, List.append_nil, Tr.lv]
    rw [← List.append_assoc x.1.lv]
    exact List.perm_append_comm

theorem mem_pkM : ∀ {l : List Tr} {t : Tr}, t ∈ pkM l → ∃ a ∈ l, ∃ b ∈ l, t = .nd (a.w + b.w) a b
  | [], t, h => by simp [pkM] at h
  | [_], t, h => by simp [pkM] at h
  | a :: b :: r, t, h => by
    simp only [pkM, List.mem_cons] at h
    rcases h with rfl | h
    · exact ⟨a, by simp, b, by simp, rfl⟩
    · obtain ⟨x, hx, y, hy, e⟩ := mem_pkM h
      exact ⟨x, by simp [hx], y, by simp [hy], e⟩
theorem mgM_perm : ∀ a b : List Tr, (mgM a b).Perm (a ++ b)
  | [], ps => by simp [mgM]
  | c :: cs, [] => by simp [mgM]
  | c :: cs, p :: ps => by
    rw [mgM]
    split
    · exact (mgM_perm cs (p :: ps)).cons c
    · exact ((mgM_perm (c :: cs) ps).cons p).trans List.perm_middle.symm
termination_by a b => a.length + b.length

/-- The row of a level (0: coins alone). -/
def lvlM (us : List Tr) : Nat → List Tr
  | 0 => us
  | k + 1 => mgM us (pkM (lvlM us k))
theorem mem_lvlM {us : List Tr} {k : Nat} {t : Tr} (h : t ∈ lvlM us (k + 1)) : t ∈ us ∨ ∃ a ∈ lvlM us k, ∃ b ∈ lvlM us k, t = .nd (a.w + b.w) a b := by
  rcases List.mem_append.1 ((mgM_perm _ _).mem_iff.1 h) with h | h
  · exact .inl h
  · exact .inr (mem_pkM h)
theorem lvlM_w {us : List Tr} {B : Int} (h : ∀ t ∈ us, 0 ≤ t.w ∧ t.w ≤ B) : ∀ (k : Nat), ∀ t ∈ lvlM us k, 0 ≤ t.w ∧ t.w ≤ B * 2 ^ k
  | 0, t, ht => by have := h t ht; simpa using this
  | k + 1, t, ht => by
    have hp : (0 : Int) < 2 ^ k := Int.pow_pos (by decide)
    rw [Int.pow_succ, ← Int.mul_assoc]
    rcases mem_lvlM ht with ht | ⟨a, ha, b, hb, rfl⟩
    · have h1 := h t ht
      have : B ≤ B * 2 ^ k := by
        have : B * 1 ≤ B * 2 ^ k := Int.mul_le_mul_of_nonneg_left (by omega) (by omega)
        omega
      omega
    · have h1 := lvlM_w h k a ha
      have h2 := lvlM_w h k b hb
      show 0 ≤ a.w + b.w ∧ a.w + b.w ≤ _
      omega
theorem lvlM_ok {us : List Tr} {n : Nat} (h : ∀ t ∈ us, t.ok n) : ∀ (k : Nat), ∀ t ∈ lvlM us k, t.ok n
  | 0, t, ht => h t ht
  | k + 1, t, ht => by
    rcases mem_lvlM ht with ht | ⟨a, ha, b, hb, rfl⟩
    · exact h t ht
    · exact ⟨lvlM_ok h k a ha, lvlM_ok h k b hb⟩
theorem lvlM_nl {us : List Tr} (h : ∀ t ∈ us, t.nl = 1) : ∀ (k : Nat), ∀ t ∈ lvlM us k, t.nl ≤ 2 ^ k
  | 0, t, ht => by rw [h t ht]; simp
  | k + 1, t, ht => by
    rw [Nat.pow_succ]
    have hp : 0 < 2 ^ k := Nat.pow_pos (by decide)
    rcases mem_lvlM ht with ht | ⟨a, ha, b, hb, rfl⟩
    · rw [h t ht]; omega
    · have h1 := lvlM_nl h k a ha
      have h2 := lvlM_nl h k b hb
      simp only [Tr.nl]
      omega
theorem lvlM_len (us : List Tr) (k : Nat) : (lvlM us (k + 1)).length = us.length + (lvlM us k).length / 2 := by
  show (mgM us (pkM (lvlM us k))).length = _
  rw [mgM_len, pkM_len]
theorem lvlM_le (us : List Tr) : ∀ k, (lvlM us k).length ≤ 2 * us.length
  | 0 => by show us.length ≤ _; omega
  | k + 1 => by
    rw [lvlM_len]
    have := lvlM_le us k
    omega
/-- Enough of them on the last level. -/
theorem lvlM_ge (us : List Tr) : ∀ k, 2 * us.length * 2 ^ k ≤ (lvlM us k).length * 2 ^ k + us.length + 2 ^ k * 1 - 1
  | 0 => by
    show 2 * us.length * 1 ≤ us.length * 1 + us.length + 1 * 1 - 1
    omega
  | k + 1 => by
    rw [lvlM_len]
    have ih := lvlM_ge us k
    have hp : 0 < 2 ^ k := Nat.pow_pos (by decide)
    rw [Nat.pow_succ]
    generalize (lvlM us k).length = x at *
    generalize us.length = n at *
    have h1 : x ≤ 2 * (x / 2) + 1 := by omega
    have h2 : x * 2 ^ k ≤ (2 * (x / 2) + 1) * 2 ^ k := Nat.mul_le_mul_right _ h1
    have e1 : 2 * n * (2 ^ k * 2) = 2 * (n * 2 ^ k) * 2 := by
      rw [← Nat.mul_assoc, Nat.mul_assoc 2 n]
    have e2 : (n + x / 2) * (2 ^ k * 2) = (n * 2 ^ k) * 2 + (x / 2 * 2 ^ k) * 2 := by
      rw [Nat.add_mul, ← Nat.mul_assoc, ← Nat.mul_assoc]
    have e3 : (2 * (x / 2) + 1) * 2 ^ k = 2 * (x / 2 * 2 ^ k) + 2 ^ k := by
      rw [Nat.add_mul, Nat.one_mul, Nat.mul_assoc]
    have e4 : 2 * n * 2 ^ k = 2 * (n * 2 ^ k) := Nat.mul_assoc ..
    rw [e1, e2]
    rw [e3] at h2
    rw [e4] at ih
    generalize n * 2 ^ k = p at *
    generalize x / 2 * 2 ^ k = q at *
    generalize x * 2 ^ k = r at *
    generalize 2 ^ k = z at *
    omega
theorem lvlM_top {us : List Tr} {m : Nat} (hm : 1 ≤ m) (h : us.length ≤ 2 ^ m) : 2 * us.length - 2 ≤ (lvlM us (m - 1)).length := by
  obtain ⟨k, rfl⟩ : ∃ k, m = k + 1 := ⟨m - 1, by omega⟩
  simp only [Nat.add_sub_cancel]
  have ih := lvlM_ge us k
  have hp : 0 < 2 ^ k := Nat.pow_pos (by decide)
  rw [Nat.pow_succ] at h
  rcases Nat.lt_or_ge (lvlM us k).length (2 * us.length - 2) with h1 | h1
  · exfalso
    have h2 : ((lvlM us k).length + 3) * 2 ^ k ≤ 2 * us.length * 2 ^ k := Nat.mul_le_mul_right _ (by omega)
    rw [Nat.add_mul] at h2
    generalize (lvlM us k).length * 2 ^ k = r at *
    generalize 2 * us.length * 2 ^ k = s at *
    generalize 2 ^ k = z at *
    omega
  · exact h1

theorem lvs_leaf (f : List Int) (i : Nat) : ∀ t ∈ lvs f i, ∃ x s, t = .leaf x (s : Nat) ∧ i ≤ s ∧ f[s - i]? = some x ∧ 0 < x := by
  induction f generalizing i with
  | nil => simp [lvs]
  | cons y r ih =>
    intro t ht
    simp only [lvs] at ht
    have key : t ∈ lvs r (i + 1) → ∃ x s, t = .leaf x (s : Nat) ∧ i ≤ s ∧ (y :: r)[s - i]? = some x ∧ 0 < x := fun ht => by
      obtain ⟨x, s, h1, h2, h3, h4⟩ := ih (i + 1) t ht
      refine ⟨x, s, h1, by omega, ?_, h4⟩
      rw [show s - i = (s - (i + 1)) + 1 by omega]
      simpa using h3
    split at ht
    · rename_i hy
      rcases List.mem_cons.1 ht with rfl | ht
      · exact ⟨y, i, rfl, Nat.le_refl _, by simp, hy⟩
      · exact key ht
    · exact key ht
end Go.Sx

/- limit: which frequencies may be; the best lengths. -/
set_option maxRecDepth 100000
set_option maxHeartbeats 8000000
set_option linter.unusedVariables false
set_option linter.unusedSimpArgs false
namespace Go.Sx
open Go.Proofs.Try

/-- How many symbols come. -/
def posN (f : List Int) : Nat := (lvs f 0).length
theorem posN_snoc (f : List Int) (x : Int) : posN (f ++ [x]) = posN f + (if 0 < x then 1 else 0) := by
  unfold posN
  rw [lvs_snoc]
  split <;> simp
theorem posN_le (f : List Int) : posN f ≤ f.length := lvs_len f 0
def RtP (f : List Int) (most : Int) : Prop := (1 ≤ most ∧ most ≤ 16 ∧ f.length ≤ 4096) ∧ (∀ x ∈ f, 0 ≤ x ∧ x ≤ 1099511627776) ∧ (posN f : Int) ≤ 2 ^ most.toNat
theorem take_snoc {f : List Int} {j : Nat} {x : Int} (hj : j < f.length) (hx : x = f.getD j 0) : f.take (j + 1) = f.take j ++ [x] := by
  rw [List.take_add_one, hx]
  simp [List.getD, hj]
theorem rowZ5 {A : Ar} (hA : A = R) (n : Int) : A.row n [.int .i64 0] = A.ints .i64 (List.replicate n.toNat 0) := by
  subst hA
  show zrow n.toNat [.int .i64 0] = ints .i64 _
  rw [zrow_one]
  simp [ints, SV.of]

theorem cells_vw5 {A : Ar} (hA : A = R) {H : List Ck} {hb ln : Nat} {k : IntKind} {l : List Int} (h4 : H[hb]? = some (.vw (A.ints k l))) (hln : ln = l.length) : cellsAt H hb 0 ln = some (A.ints k l) := by
  rw [cellsAt_eq h4 (by show 0 + ln ≤ (A.ints k l).length; rw [A_ints_len hA]; omega)]
  show some ((List.drop 0 (A.ints k l)).take ln) = _
  rw [List.drop_zero, hln, ← A_ints_len hA k l, List.take_length]
theorem cells_lst5 {H : List Ck} {j n T k : Nat} {cs : List SV} (hc : H[j]? = some (.lst T k cs)) (hn : cs.length = n) : cellsAt H j 0 n = some cs := by
  rw [cellsAt_eq hc (by show 0 + n ≤ cs.length; omega), ← hn]
  show some ((cs.drop 0).take cs.length) = _
  rw [List.drop_zero, List.take_length]

theorem s_rightL (f : List Int) (n : Nat) (most : Int) (hn : n = f.length) (hl : f.length ≤ 1000000) : Spec prog 21 [.sl 0 0 n false, .int .i64 most] [.vw (R.ints .i64 f)]
    (fun r H => ∃ t : Bool, (t = true ↔ RtP f most) ∧ r = .bool t ∧ H = [.vw (R.ints .i64 f)]) := by
  refine Spec_of_kX (D := fun i => (0, [])) (ks := [0, 1, 4, 5, 7, 19, 20, 21]) tok mixed (fn := f21) rfl rfl rfl (by kernel_rfl) (N := 40) rfl (rs := [.tmp 4]) rfl (Nat.le_of_ble_eq_true rfl) fun A C Kp E ag L q hA hC hK hE hag hL hq => ?_
  rw [← hA]
  have en : A.nat n = (n : Int) := natA hA n
  obtain ⟨nI, hnI⟩ : ∃ z : Int, z = (n : Int) := ⟨_, rfl⟩
  rw [← hnI] at en
  cbv
  (try simp only [ncast] at *)
  refine ifB_intro (fun h => ?_) (fun h => ?_)
  · have h1 := h
    (try simp only [wA hA] at h1)
    (try rw [h]); clear h
    cbv
    (try simp only [ncast] at *)
    subst hA hq
    exact ⟨false, ⟨fun h => (by cases h), fun h => absurd h (fun h => by have := h.1.1; omega)⟩, rfl, rfl⟩
  · have h1 := h
    (try simp only [wA hA] at h1)
    (try rw [h]); clear h
    cbv
    (try simp only [ncast] at *)
    refine ifB_intro (fun h => ?_) (fun h => ?_)
    · have h2 := h
      (try simp only [wA hA] at h2)
      (try rw [h]); clear h
      cbv
      (try simp only [ncast] at *)
      subst hA hq
      exact ⟨false, ⟨fun h => (by cases h), fun h => absurd h (fun h => by have := h.1.2.1; omega)⟩, rfl, rfl⟩
    · have h2 := h
      (try simp only [wA hA] at h2)
      (try rw [h]); clear h
      cbv
      (try simp only [ncast] at *)
      (try simp only [en])
      refine ifB_intro (fun h => ?_) (fun h => ?_)
      · have h3 := h
        (try simp only [wA hA] at h3)
        (try rw [h]); clear h
        cbv
        (try simp only [ncast] at *)
        subst hA hq
        exact ⟨false, ⟨fun h => (by cases h), fun h => absurd h (fun h => by have := h.1.2.2; omega)⟩, rfl, rfl⟩
      · have h3 := h
        (try simp only [wA hA] at h3)
        (try rw [h]); clear h
        cbv
        (try simp only [ncast] at *)
        (try simp only [en])
        rw [hL]
        refine loop_keep (fun kk s => ∃ (c i : Int) (j : Nat), i = j ∧ j ≤ f.length ∧ (∀ x ∈ f.take j, 0 ≤ x ∧ x ≤ 1099511627776) ∧ c = (posN (f.take j) : Nat) ∧ kk = f.length - j ∧ s = ⟨[(0, .sl 0 0 n false), (1, .int .i64 most), (5, .int .i64 c), (19, .sl 0 0 n false), (20, .int .i64 nI), (21, .int .i64 i)], [.vw (A.ints .i64 f)]⟩)
          [0, 1, 5, 19, 20, 21] f.length ⟨0, 0, 0, rfl, by omega, by simp, rfl, by omega, rfl⟩ ?_
        rintro kk _ ⟨c, i, j, hi, hj, hx, hc, hkk, rfl⟩
        have hpl := posN_le (f.take j)
        rw [List.length_take] at hpl
        cbv
        (try simp only [ncast] at *)
        refine ifB_intro (fun h => ?_) (fun h => ?_)
        · have hlt := h
          (try simp only [wA hA] at hlt)
          (try rw [h]); clear h
          cbv
          (try simp only [ncast] at *)
          refine rdA hA (by omega) (by omega) fun x hx1 => ?_
          rw [show 0 + i.toNat = j by omega] at hx1
          have hjl : j < f.length := by omega
          have htk := take_snoc hjl hx1
          have hxm : x ∈ f := by rw [hx1]; simp [List.getD, hjl]
          have hpn : posN (f.take (j + 1)) = posN (f.take j) + (if 0 < x then 1 else 0) := by rw [htk, posN_snoc]
          have ei : A.bin .add .i64 i 1 = i + 1 := by rw [addA hA, wrap64 (by omega)]
          have ec : A.bin .add .i64 c 1 = c + 1 := by rw [addA hA, wrap64 (by omega)]
          cbv
          (try simp only [ncast] at *)
          refine ifB_intro (fun h => ?_) (fun h => ?_)
          · have h5 := h
            (try simp only [wA hA] at h5)
            (try rw [h]); clear h
            cbv
            (try simp only [ncast] at *)
            subst hA hq
            exact ⟨false, ⟨fun h => (by cases h), fun h => absurd h (fun h => by have := (h.2.1 x hxm).1; omega)⟩, rfl, rfl⟩
          · have h5 := h
            (try simp only [wA hA] at h5)
            (try rw [h]); clear h
            cbv
            (try simp only [ncast] at *)
            refine ifB_intro (fun h => ?_) (fun h => ?_)
            · have h6 := h
              (try simp only [wA hA] at h6)
              (try rw [h]); clear h
              cbv
              (try simp only [ncast] at *)
              subst hA hq
              exact ⟨false, ⟨fun h => (by cases h), fun h => absurd h (fun h => by have := (h.2.1 x hxm).2; omega)⟩, rfl, rfl⟩
            · have h6 := h
              (try simp only [wA hA] at h6)
              (try rw [h]); clear h
              cbv
              (try simp only [ncast] at *)
              have hx2 : ∀ y ∈ f.take (j + 1), 0 ≤ y ∧ y ≤ 1099511627776 := by
                rw [htk]
                intro y hy
                rcases List.mem_append.1 hy with hy | hy
                · exact hx y hy
                · have := List.mem_singleton.1 hy; omega
              refine ifB_intro (fun h => ?_) (fun h => ?_)
              · have h7 := h
                (try simp only [wA hA] at h7)
                (try rw [h]); clear h
                cbv
                (try simp only [ncast] at *)
                rw [if_pos h7] at hpn
                (try simp only [ei, ec])
                subst hag
                exact again_keep [0, 1, 5, 19, 20, 21] (f.length - (j + 1)) (by omega) ⟨c + 1, i + 1, j + 1, by omega, by omega, hx2, by omega, rfl, rfl⟩
              · have h7 := h
                (try simp only [wA hA] at h7)
                (try rw [h]); clear h
                cbv
                (try simp only [ncast] at *)
                rw [if_neg (by omega)] at hpn
                (try simp only [ei, ec])
                subst hag
                exact again_keep [0, 1, 5, 19, 20, 21] (f.length - (j + 1)) (by omega) ⟨c, i + 1, j + 1, by omega, by omega, hx2, by omega, rfl, rfl⟩
        · have hge := h
          (try simp only [wA hA] at hge)
          (try rw [h]); clear h
          cbv
          (try simp only [ncast] at *)
          have hjl : j = f.length := by omega
          rw [hjl, List.take_length] at hx hc
          obtain ⟨m, hm⟩ : ∃ m : Nat, most = m := ⟨most.toNat, by omega⟩
          have hm16 : m ≤ 16 := by omega
          have hpw : (2 : Int) ^ m ≤ 65536 := by
            have e2 : ((2 ^ m : Nat) : Int) = (2 : Int) ^ m := Int.natCast_pow 2 m
            have h3 : (2 : Nat) ^ m ≤ 65536 := Nat.le_trans (Nat.pow_le_pow_right (by decide) hm16) (by decide)
            omega
          have hpw0 : (0 : Int) < 2 ^ m := Int.pow_pos (by decide)
          have es : A.bin .shl .i64 1 most = 2 ^ m := by
            rw [shlA hA]
            unfold shlI
            rw [show min most.toNat IntKind.i64.bits = m by rw [show IntKind.i64.bits = 64 from rfl]; omega, Int.one_mul, wrap64 (by omega)]
          obtain ⟨pw, hpw1⟩ : ∃ z, z = (2 : Int) ^ m := ⟨_, rfl⟩
          rw [← hpw1] at es hpw hpw0
          refine ⟨by simp only [ge0A hA]; omega, ?_⟩
          simp only [es]
          subst hA hq
          refine ⟨decide (c ≤ pw), ?_, rfl, rfl⟩
          rw [decide_eq_true_eq]
          unfold RtP
          rw [show most.toNat = m by omega, ← hpw1]
          constructor
          · intro h
            exact ⟨⟨by omega, by omega, by omega⟩, hx, by omega⟩
          · intro h
            have := h.2.2
            omega
section
variable {A : Ar} {C : CallT} {s : St} {κ : List Nat → SV → List Ck → Prop}
theorem call_rightL (hC : C = CallX prog) (hA : A = R) {f : List Int} {hb n : Nat} {most : Int} (hn : n = f.length) (hl : f.length ≤ 1000000) (h4 : cellsAt s.H hb 0 n = some (A.ints .i64 f)) {av : List SV} (hav : argsOk 1 (linkOf s.H.length [(hb, 0, false)]) [.sl 0 0 n false, .int .i64 most] av)
    (hk : ∀ t : Bool, (t = true ↔ RtP f most) → κ [] (.bool t) s.H) : C 21 av s κ := by
  have hS := s_rightL f n most hn hl
  rw [← hA] at hS
  refine cal_of hC hS [(hb, 0, false)] ⟨by simp, trivial⟩ ⟨hLtsA hA .., zOksA hA .., ?_, trivial⟩ hav ?_
  · rw [renA hA, A_ints_len hA, ← hn]; exact h4
  rintro _ _ ⟨t, ht, rfl, rfl⟩
  refine ⟨_, _, s.H, rfl, rfl, ?_, hk t ht⟩
  simp [backH, setAll]
theorem call_max (hC : C = CallX prog) (hA : A = R) {l : List Int} {hb n : Nat} (hn : n = l.length) (h0 : 0 < l.length) (hl : l.length ≤ 1000000) (h4 : cellsAt s.H hb 0 n = some (A.ints .i64 l)) {av : List SV} (hav : argsOk 1 (linkOf s.H.length [(hb, 0, false)]) [.sl 0 0 n false] av)
    (hk : ∀ m, MaxQ l m → κ [] (.int .i64 m) s.H) : C 25 av s κ := by
  have hS := s_max l n hn h0 hl
  rw [← hA] at hS
  refine cal_of hC hS [(hb, 0, false)] ⟨by simp, trivial⟩ ⟨hLtsA hA .., zOksA hA .., ?_, trivial⟩ hav ?_
  · rw [renA hA, A_ints_len hA, ← hn]; exact h4
  rintro _ _ ⟨t, ht, rfl, rfl⟩
  refine ⟨_, _, s.H, rfl, rfl, ?_, hk t ht⟩
  simp [backH, setAll]
end
end Go.Sx
