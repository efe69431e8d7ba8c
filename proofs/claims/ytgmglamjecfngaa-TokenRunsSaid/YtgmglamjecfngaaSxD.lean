/- The model's run of each operation that leaves memory as it is. -/
import Derived.Test.YtgmglamjecfngaaSxC
set_option linter.unusedVariables false
set_option linter.unusedSimpArgs false
namespace Go.Sx

section
variable {P : Program} {tt : Nat → Option TI} {G : Gh} {N : Nat} {ρ : Env} {s : St} {a : Act} {w : World} {κ : SV → Prop}

theorem info_cells {t : Nat} {inf : TypeInfo} (h : P.info? t = some inf) : P.cellsOf t = inf.size := by simp [Program.cellsOf, h]

theorem sound_field_addr (tok : TIok P tt) {T : Nat} {ti : TI} {fs : List (Nat × Nat × Nat)} (ht : tt T = some ti) (hd : ti.d = .struct fs) {f off fty sz : Nat} (hf : fs[f]? = some (off, fty, sz + 1))
    (b o : Nat) (w : World) : (Instr.fieldAt T (.pointer (some ⟨b, o, none⟩)) f).run P w = .ok (.pointer (some ⟨b, o + off, none⟩)) w := by
  obtain ⟨inf, d, z, h1, h2, h3, rfl⟩ := tiv_some (tok _ _ ht)
  obtain ⟨l, rfl, rfl⟩ := TD_struct hd
  simp only [List.getElem?_map, Option.map_eq_some_iff, Prod.mk.injEq] at hf
  obtain ⟨fd, hfd, rfl, rfl, hsz⟩ := hf
  have hfd' : l[f]? = some fd := by simpa using hfd
  have hadd : (⟨b, o, none⟩ : Addr).add fd.offset = ⟨b, o + fd.offset, none⟩ := by unfold Addr.add; split <;> simp_all
  cases hi : P.info? fd.type with
  | none => simp [Program.cellsOf, hi] at hsz
  | some inf' =>
    have hs : inf'.size = sz + 1 := by rw [← info_cells hi]; exact hsz
    simp [Instr.fieldAt, run_underlying h2, hfd', Instr.sureAddr, fieldPlace, sizeOf, typeInfo, hi, hs, hadd]

theorem run_isAgg' {T : Nat} {d : TypeDesc} (h2 : P.underlying T = some d) (w : World) : (isAgg T).run P w = .ok (TD.of P d).isAgg w := by
  cases d <;> simp [isAgg, run_underlying h2, TD.of, TD.isAgg]

/-- The blocks that the chunks lie in are as they were. -/
def SameB (ρ : Env) (H : List Ck) (w w' : World) : Prop := ∀ h c, H[h]? = some c → c.cells ≠ [] → w'.heap[(ρ h).blk]? = w.heap[(ρ h).blk]?

theorem SameB.refl (ρ : Env) (H : List Ck) (w : World) : SameB ρ H w w := fun _ _ _ _ => rfl

theorem SameB.cellAt {ρ : Env} {H : List Ck} {w w' : World} (hs : SameB ρ H w w') {h o : Nat} {c : SV} (hc : cellAt H h o = some c) (x : Nat) :
    w'.cell? ⟨(ρ h).blk, x, none⟩ = w.cell? ⟨(ρ h).blk, x, none⟩ := by
  unfold Go.Sx.cellAt at hc
  split at hc
  · rename_i ck hck
    have := hs h ck hck (by intro he; rw [he] at hc; simp at hc)
    simp [World.cell?, this]
  · cases hc

theorem cellsAt_ne {H : List Ck} {h o n : Nat} {cs : List SV} (hc : cellsAt H h o n = some cs) (hn : 0 < n) : ∃ ck, H[h]? = some ck ∧ ck.cells ≠ [] := by
  unfold cellsAt at hc
  split at hc
  · rename_i ck hck
    cases hb : Nat.ble (o + n) ck.cells.length with
    | false => simp [hb] at hc
    | true =>
      have hle : o + n ≤ ck.cells.length := by simpa using hb
      refine ⟨ck, hck, fun he => ?_⟩
      rw [he] at hle
      simp at hle
      omega
  · cases hc

theorem sound_load (tok : TIok P tt) (hr : Rel G N ρ s a w) {T : Nat} {ti : TI} (ht : tt T = some ti) {h o : Nat} {v : Value} (hv : VR ρ (.ptr h o) v)
    (hk : bif ti.d.isAgg then (∃ cs, cellsAt s.H h o ti.size = some cs ∧ κ (.agg cs)) else (∃ c, cellAt s.H h o = some c ∧ κ c)) :
    ∃ sv u, κ sv ∧ VR ρ sv u ∧ ∀ w', SameB ρ s.H w w' → (Instr.loadAt T v).run P w' = .ok u w' := by
  obtain ⟨inf, d, z, h1, h2, h3, rfl⟩ := tiv_some (tok _ _ ht)
  simp only [VR_ptr] at hv
  obtain ⟨hlt, rfl⟩ := hv
  cases hg : (TD.of P d).isAgg with
  | true =>
    simp only [hg, cond_true] at hk
    obtain ⟨cs, hcs, hk⟩ := hk
    obtain ⟨vs, hl, hvs, hall⟩ := cellsAt_run hr.hp hcs
    refine ⟨_, .agg vs.toArray, hk, ⟨vs, rfl, hall⟩, fun w' hw' => ?_⟩
    have hvs' : ∀ j v, vs[j]? = some v → w'.cell? ((⟨(ρ h).blk, (ρ h).base + o, none⟩ : Addr).add j) = some v := by
      intro j v hj
      have h5 := hvs j v hj
      have e : ((⟨(ρ h).blk, (ρ h).base + o, none⟩ : Addr).add j) = ⟨(ρ h).blk, (ρ h).base + (o + j), none⟩ := by
        unfold Addr.add; split <;> simp_all [Nat.add_assoc]
      rw [e] at h5 ⊢
      obtain ⟨ck, hck, hne⟩ := cellsAt_ne hcs (by have := (List.getElem?_eq_some_iff.1 hj).1; omega)
      have h6 := hw' h ck hck hne
      simp only [World.cell?, h6] at h5 ⊢
      exact h5
    have hrun := run_loadCells_list (P := P) w' ⟨(ρ h).blk, (ρ h).base + o, none⟩ vs hvs'
    rw [hl] at hrun
    simp [Instr.loadAt, Instr.sureAddr, loadVar, run_isAgg' h2, hg, sizeOf, typeInfo, h1, hrun]
  | false =>
    simp only [hg, cond_false] at hk
    obtain ⟨c, hc, hk⟩ := hk
    obtain ⟨u, hu, hcu⟩ := cellAt_run hr.hp hc
    refine ⟨_, u, hk, VR_of_CR hcu, fun w' hw' => ?_⟩
    rw [← hw'.cellAt hc] at hu
    simp [Instr.loadAt, Instr.sureAddr, loadVar, run_isAgg' h2, hg, hu]

theorem sound_len (tok : TIok P tt) {T : Nat} {x : SV} {v : Value} (hv : VR ρ x v) (h : plen tt T x κ) : ∃ sv u, κ sv ∧ VR ρ sv u ∧ ∀ ty w, (Builtin.len_ #[T] ty #[v]).run P w = .ok u w := by
  unfold plen at h
  split at h
  · rename_i ht
    obtain ⟨inf, d, z, h1, h2, h3, h4⟩ := tiv_some (tok _ _ ht)
    injection h4 with hd; have hd := TD_slice hd.symm; subst hd
    obtain ⟨_, b, c, rfl, _⟩ := hv
    exact ⟨_, _, h, rfl, fun ty w => by simp [Builtin.len_, run_underlying h2, goInt]⟩
  · rename_i ht
    obtain ⟨inf, d, z, h1, h2, h3, h4⟩ := tiv_some (tok _ _ ht)
    injection h4 with hd; have hd := TD_slice hd.symm; subst hd
    rcases hv with ⟨_, ⟨_, rfl, rfl⟩ | ⟨_, _, rfl⟩⟩ <;>
    exact ⟨_, _, h, rfl, fun ty w => by simp [Builtin.len_, run_underlying h2, goInt]⟩
  · rename_i ht
    obtain ⟨inf, d, z, h1, h2, h3, h4⟩ := tiv_some (tok _ _ ht)
    injection h4 with hd; have hd := TD_slice hd.symm; subst hd
    simp only [VR_nilS] at hv; subst hv
    exact ⟨_, _, h, rfl, fun ty w => by simp [Builtin.len_, run_underlying h2, goInt]⟩
  · rename_i ht
    obtain ⟨inf, d, z, h1, h2, h3, h4⟩ := tiv_some (tok _ _ ht)
    injection h4 with hd; have hd := TD_array hd.symm; subst hd
    exact ⟨_, _, h, rfl, fun ty w => by simp [Builtin.len_, run_underlying h2, goInt]⟩
  · exact h.elim

theorem sound_idx (tok : TIok P tt) {T e : Nat} {ti te : TI} (ht : tt T = some ti) (hd : ti.d = .slice e) (hte : tt e = some te) {b o n c : Nat} {k : IntKind} {i : Int} (ad : Option Addr)
    (had : 0 < n → ad = some ⟨b, o, none⟩) (hi : 0 ≤ i ∧ i < n) (w : World) : (Instr.indexAt T (.slice ad n c) (.int k i)).run P w = .ok (.pointer (some ⟨b, o + i.toNat * te.size, none⟩)) w := by
  obtain ⟨inf, d, z, h1, h2, h3, rfl⟩ := tiv_some (tok _ _ ht)
  obtain ⟨inf', d', z', h1', h2', h3', rfl⟩ := tiv_some (tok _ _ hte)
  have hd := TD_slice hd; subst hd
  obtain rfl := had (by omega)
  have hadd : ∀ m, (⟨b, o, none⟩ : Addr).add m = ⟨b, o + m, none⟩ := fun m => by unfold Addr.add; split <;> simp_all
  simp [Instr.indexAt, asIntOf, run_underlying h2, sizeOf, typeInfo, h1', hadd, hi.1, hi.2]

theorem sound_idx_array (tok : TIok P tt) {T e m : Nat} {ti te : TI} (ht : tt T = some ti) (hd : ti.d = .array m e) (hte : tt e = some te) {b o : Nat} {k : IntKind} {i : Int}
    (hi : 0 ≤ i ∧ i < m) (w : World) : (Instr.indexAt T (.pointer (some ⟨b, o, none⟩)) (.int k i)).run P w = .ok (.pointer (some ⟨b, o + i.toNat * te.size, none⟩)) w := by
  obtain ⟨inf, d, z, h1, h2, h3, rfl⟩ := tiv_some (tok _ _ ht)
  obtain ⟨inf', d', z', h1', h2', h3', rfl⟩ := tiv_some (tok _ _ hte)
  have hd := TD_array hd; subst hd
  have hadd : ∀ m, (⟨b, o, none⟩ : Addr).add m = ⟨b, o + m, none⟩ := fun m => by unfold Addr.add; split <;> simp_all
  simp [Instr.indexAt, asIntOf, run_underlying h2, sizeOf, typeInfo, h1', hadd, hi.1, hi.2, Instr.sureAddr]

theorem ofHi_some {n : Nat} {x : SV} (h : 0 ≤ ofHi n (some x)) : ∃ k b, x = .int k b ∧ ofHi n (some x) = b := by
  cases x <;> simp [ofHi] at h ⊢
theorem ofLo_some {x : SV} (h : 0 ≤ ofLo (some x)) : ∃ k b, x = .int k b ∧ ofLo (some x) = b := by
  cases x <;> simp [ofLo] at h ⊢

theorem sound_slice (tok : TIok P tt) (hr : Rel G N ρ s a w) {T e : Nat} {ti te : TI} (ht : tt T = some ti) (hd : ti.d = .slice e) (hte : tt e = some te) {h o n c : Nat} (ad : Option Addr) (hlt : h < ρ.n) (hn : n ≤ c)
    (had : 0 < n → ad = some ⟨(ρ h).blk, (ρ h).base + o, none⟩) (lo hi mx : Option Operand) (hk : pslice te.size h o n (lo.map s.ev) (hi.map s.ev) (mx.map s.ev) κ) :
    ∃ sv u, κ sv ∧ VR ρ sv u ∧ ∀ w, (Instr.sliceAt T (.slice ad n c) (lo.map a.eval) (hi.map a.eval) (mx.map a.eval)).run P w = .ok u w := by
  obtain ⟨inf, d, z, h1, h2, h3, rfl⟩ := tiv_some (tok _ _ ht)
  obtain ⟨inf', d', z', h1', h2', h3', rfl⟩ := tiv_some (tok _ _ hte)
  have hd := TD_slice hd; subst hd
  obtain ⟨k1, k2, k3, k4⟩ := hk
  have hlo : ∃ l : Nat, ofLo (lo.map s.ev) = l ∧ ∀ (w : World) (m : Nat) (code : BoundsCode), l ≤ m → (match lo.map a.eval with | some v => Instr.sliceBound v m code | none => pure 0 : Sem Nat).run P w = .ok l w := by
    cases lo with
    | none => exact ⟨0, rfl, fun _ _ _ _ => rfl⟩
    | some x =>
      obtain ⟨k, b, hx, hb⟩ := ofLo_some k1
      have hv := ev_run hr x
      rw [hx, VR_int] at hv
      refine ⟨b.toNat, by simp only [Option.map_some]; rw [hb]; simp only [Option.map_some] at k1; rw [hb] at k1; omega, fun w m code hm => ?_⟩
      simp only [Option.map_some] at k1
      rw [hb] at k1
      simp [hv, Instr.sliceBound, asIntOf, show 0 ≤ b from k1, show b ≤ (m : Int) by omega]
  have hhi : ∃ u : Nat, ofHi n (hi.map s.ev) = u ∧ ∀ (w : World) (m : Nat) (code : BoundsCode), u ≤ m → (match hi.map a.eval with | some v => Instr.sliceBound v m code | none => pure n : Sem Nat).run P w = .ok u w := by
    cases hi with
    | none => exact ⟨n, rfl, fun _ _ _ _ => rfl⟩
    | some x =>
      have k12 := Int.le_trans k1 k2
      obtain ⟨k, b, hx, hb⟩ := ofHi_some k12
      have hv := ev_run hr x
      rw [hx, VR_int] at hv
      refine ⟨b.toNat, by simp only [Option.map_some]; rw [hb]; simp only [Option.map_some] at k12; rw [hb] at k12; omega, fun w m code hm => ?_⟩
      simp only [Option.map_some] at k12
      rw [hb] at k12
      simp [hv, Instr.sliceBound, asIntOf, show 0 ≤ b from k12, show b ≤ (m : Int) by omega]
  obtain ⟨l, el, hl⟩ := hlo
  obtain ⟨u, eu, hu⟩ := hhi
  rw [el, eu] at k2
  rw [eu] at k3
  rw [el, eu] at k4
  have hadd : ∀ m, (⟨(ρ h).blk, (ρ h).base + o, none⟩ : Addr).add m = ⟨(ρ h).blk, (ρ h).base + (o + m), none⟩ := fun m => by unfold Addr.add; split <;> simp_all [Nat.add_assoc]
  have hvr : ∀ (m : Nat) (cl : Bool), u ≤ m → (cl = true → m = u) → VR ρ (.sl h (o + (l : Int).toNat * inf'.size) ((u : Int) - l).toNat cl) (.slice (if m = l then ad else ad.map (·.add (l * inf'.size))) (u - l) (m - l)) := by
    intro m cl hm hcl
    refine ⟨hlt, if m = l then ad else ad.map (·.add (l * inf'.size)), m - l, ?_, ?_, ?_, ?_⟩
    · congr 1; omega
    · omega
    · intro hc; have := hcl hc; omega
    · intro hpos
      have hne : ¬ m = l := by omega
      rw [if_neg hne, had (by omega)]
      simp [hadd]
  cases mx with
  | none =>
    simp only [Option.map_none] at k4
    refine ⟨_, _, k4, hvr c false (by omega) (by simp), fun w => ?_⟩
    have h5 := hu w c .sliceAcap (by omega)
    have h6 := hl w u .sliceB (by omega)
    cases hi with
    | none =>
      simp at h5
      subst h5
      cases lo with
      | none => simp at h6; subst h6; simp [Instr.sliceAt, run_underlying h2, Instr.slice, Instr.sliceBounds, sizeOf, typeInfo, h1']
      | some x => simp at h6; simp [Instr.sliceAt, run_underlying h2, Instr.slice, Instr.sliceBounds, sizeOf, typeInfo, h1', h6]
    | some y =>
      simp at h5
      cases lo with
      | none => simp at h6; subst h6; simp [Instr.sliceAt, run_underlying h2, Instr.slice, Instr.sliceBounds, sizeOf, typeInfo, h1', h5]
      | some x => simp at h6; simp [Instr.sliceAt, run_underlying h2, Instr.slice, Instr.sliceBounds, sizeOf, typeInfo, h1', h5, h6]
  | some m =>
    simp only [Option.map_some] at k4
    obtain ⟨k5, k6, k7⟩ := k4
    cases hi with
    | none => simp at k5
    | some y =>
      have h0 : 0 ≤ ofHi n (some (s.ev m)) := by rw [k6]; omega
      obtain ⟨k, b, hx, hb⟩ := ofHi_some h0
      have hv := ev_run hr m
      rw [hx, VR_int] at hv
      rw [hb] at k6
      subst k6
      refine ⟨_, _, k7, hvr u true (by omega) (by simp), fun w => ?_⟩
      have h5 := hu w u .slice3B (by omega)
      have h6 := hl w u .slice3C (by omega)
      have h7 : (Instr.sliceBound (a.eval m) c .slice3Acap).run P w = .ok u w := by simp [hv, Instr.sliceBound, asIntOf, show (u : Int) ≤ c by omega]
      simp at h5
      cases lo with
      | none => simp at h6; subst h6; simp [Instr.sliceAt, run_underlying h2, Instr.slice, Instr.sliceBounds, sizeOf, typeInfo, h1', h5, h7]
      | some x => simp at h6; simp [Instr.sliceAt, run_underlying h2, Instr.slice, Instr.sliceBounds, sizeOf, typeInfo, h1', h5, h6, h7]

end
end Go.Sx
