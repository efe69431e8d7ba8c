/- append. -/
import Derived.Test.YtgmglamjecfngaaSxH
set_option linter.unusedVariables false
set_option linter.unusedSimpArgs false
namespace Go.Sx

def srcCells (s : St) (sz : Nat) : SV → (Nat → List SV → Prop) → Prop
  | .nilS, κ => κ 0 []
  | .lst h m, κ => ∃ cs, cellsAt s.H h 0 (m * sz) = some cs ∧ κ m cs
  | .sl h o m _, κ => ∃ cs, cellsAt s.H h o (m * sz) = some cs ∧ κ m cs
  | _, _ => False

def room : Nat := 140737488355328

def eappend (tt : Nat → Option TI) (s : St) (T : Nat) (x y : SV) (κ : SV → List Ck → Prop) : Prop :=
  match tt T with
  | some ⟨.slice e, _, _, _⟩ => (match tt e with
    | some j => 0 < j.size ∧ 0 < j.bytes ∧ j.zero.length = j.size ∧ srcCells s j.size y fun m news => AllSc news ∧ match x with
      | .nilS => m * j.bytes ≤ room ∧ κ (.lst s.H.length m) (s.H ++ [.lst e j.size news])
      | .lst h n => ∃ cs, s.H[h]? = some (.lst e j.size cs) ∧ cs.length = n * j.size ∧ (n + m) * j.bytes ≤ room ∧ κ (.lst s.H.length (n + m)) (s.H.set h .gone ++ [.lst e j.size (cs ++ news)])
      | .sl h o n true => 0 < m ∧ ∃ cs, cellsAt s.H h o (n * j.size) = some cs ∧ (n + m) * j.bytes ≤ room ∧ κ (.lst s.H.length (n + m)) (s.H ++ [.lst e j.size (cs ++ news)])
      | _ => False
    | none => False)
  | _ => False

section
variable {P : Program} {tt : Nat → Option TI} {G : Gh} {N : Nat} {ρ : Env} {s : St} {a : Act} {w : World}

theorem srcCells_run (hr : Rel G N ρ s a w) {sz : Nat} {y : SV} {v : Value} (hv : VR ρ y v) {κ : Nat → List SV → Prop} (h : srcCells s sz y κ) :
    ∃ m news ad c, κ m news ∧ v = .slice ad m c ∧ m ≤ c ∧ ∃ vs : List Value, vs.length = m * sz ∧ All2 (CR ρ) news vs ∧ (0 < m → ∃ a', ad = some a' ∧ ∀ j u, vs[j]? = some u → w.cell? (a'.add j) = some u) := by
  unfold srcCells at h
  split at h
  · simp only [VR_nilS] at hv
    subst hv
    exact ⟨0, [], none, 0, h, rfl, Nat.le_refl _, [], by simp, All2.nil _, fun h => absurd h (by omega)⟩
  · rename_i hh m
    obtain ⟨cs, hc, hk⟩ := h
    obtain ⟨vs, hl, hvs, hall⟩ := cellsAt_run hr.hp hc
    rcases hv with ⟨_, ⟨_, rfl, rfl⟩ | ⟨_, hm, rfl⟩⟩
    · exact ⟨_, _, none, 0, hk, rfl, Nat.le_refl _, vs, hl, hall, fun h => absurd h (by omega)⟩
    · exact ⟨_, _, _, _, hk, rfl, hm, vs, hl, hall, fun _ => ⟨_, rfl, by simpa using hvs⟩⟩
  · rename_i hh o m cl
    obtain ⟨cs, hc, hk⟩ := h
    obtain ⟨vs, hl, hvs, hall⟩ := cellsAt_run hr.hp hc
    obtain ⟨_, ad, c, rfl, hmc, _, had⟩ := hv
    exact ⟨_, _, ad, c, hk, rfl, hmc, vs, hl, hall, fun hp => ⟨_, had hp, hvs⟩⟩
  · exact h.elim

theorem run_append_zero {t e : Nat} (ty : Nat) {i : TypeInfo} (ht : P.underlying t = some (.slice e)) (hi : P.info? e = some i) (b : Option Addr) (n cap : Nat) (hn : n ≤ cap) (ad : Option Addr) (c : Nat) (w : World) :
    (Builtin.append_ #[t, t] ty #[.slice b n cap, .slice ad 0 c]).run P w = .ok (.slice b n cap) w := by
  cases ad <;> cases b <;> simp [Builtin.append_, run_underlying ht, sizeOf, typeInfo, hi, Builtin.lenOf, Builtin.firstCells, loadCells, loadCellsFrom, hn, storeCells]

/-- A new block behind an append. -/
theorem grown_rel (hr : Rel G N ρ s a w) {e sz m : Nat} {cs : List SV} {arr : Array Value} {cap : Nat} (hl : cs.length = m * sz) (hm : m ≤ cap) (hc : cap ≤ maxLen) (hs : arr.size = cap * sz) (hall : All2 (CR ρ) cs (arr.toList.take cs.length)) :
    Rel G N (ρ.ext ⟨w.heap.size, 0, cap, false⟩) { s with H := s.H ++ [.lst e sz cs] } a (w.drew.alloc (.cells arr e)) ∧
      VR (ρ.ext ⟨w.heap.size, 0, cap, false⟩) (.lst s.H.length m) (.slice (some ⟨w.heap.size, 0, none⟩) m cap) := by
  have hcnt := hr.hp.cnt
  refine ⟨hr.add rfl rfl rfl (by simp) (fun k hk => Go.RowKit.Below.heap_alloc w.drew _ k hk) (.inr ⟨by rw [Env.ext_new], by rw [Env.ext_new], arr, m, by rw [Env.ext_new]; exact Go.heap_alloc_new w.drew _, hl, by rw [Env.ext_new]; exact hm, by rw [Env.ext_new]; exact hc, by rw [Env.ext_new]; exact hs, All2_ext hall⟩) (by simp) (fun _ => Nat.le_refl _), ?_⟩
  rw [← hcnt]
  exact ⟨by simp [Env.ext], .inr ⟨by rw [Env.ext_new], by rw [Env.ext_new]; exact hm, by rw [Env.ext_new]⟩⟩

theorem take_app {cs news : List SV} {olds vs : List Value} {rest : Array Value} (h : All2 (CR ρ) cs olds) (h' : All2 (CR ρ) news vs) :
    All2 (CR ρ) (cs ++ news) ((olds.toArray ++ vs.toArray ++ rest).toList.take (cs ++ news).length) := by
  have e : (olds.toArray ++ vs.toArray ++ rest).toList.take (cs ++ news).length = olds ++ vs := by
    simp only [Array.toList_append, List.length_append, h.1, h'.1]
    rw [← List.length_append]
    exact List.take_left
  rw [e]
  exact h.append h'

theorem eappend_sound (tok : TIok P tt) (hr : Rel G N ρ s a w) {T ty : Nat} {x y : SV} {xv yv : Value} (hx : VR ρ x xv) (hy : VR ρ y yv) {κ : SV → List Ck → Prop} (h : eappend tt s T x y κ) :
    ∃ v w' sv H' ρ', κ sv H' ∧ (Builtin.append_ #[T, T] ty #[xv, yv]).run P w = .ok v w' ∧ Rel G N ρ' { s with H := H' } a w' ∧ VR ρ' sv v ∧ ρ.Le ρ' ∧
      ∀ b, b < w.heap.size → (∀ h n c, x = .lst h n → s.H[h]? = some c → Owns ρ h c → (ρ h).blk ≠ b) → w'.heap[b]? = w.heap[b]? := by
  have same : ∀ (w : World) (b : Nat), b < w.heap.size → (∀ h n c, x = .lst h n → s.H[h]? = some c → Owns ρ h c → (ρ h).blk ≠ b) → w.heap[b]? = w.heap[b]? := fun _ _ _ _ => rfl
  have grew : ∀ (w : World) (o : Obj) (b : Nat), b < w.heap.size → (∀ h n c, x = .lst h n → s.H[h]? = some c → Owns ρ h c → (ρ h).blk ≠ b) → (w.drew.alloc o).heap[b]? = w.heap[b]? := fun w o b hb _ => Go.RowKit.Below.heap_alloc w.drew o b hb
  unfold eappend at h
  split at h
  · rename_i e q1 q2 q3 ht
    split at h
    · rename_i j hj
      obtain ⟨hsz, hby, hzl, h⟩ := h
      obtain ⟨inf, d, z, k1, k2, k3, k4⟩ := tiv_some (tok _ _ ht)
      injection k4 with e1
      have hd := TD_slice e1.symm; subst hd
      obtain ⟨inf', d', zv', k1', k2', k3', rfl⟩ := tiv_some (tok _ _ hj)
      obtain ⟨m, news, ad, c, ⟨hsc, hk⟩, rfl, hmc, vs, hvl, hvall, hvs⟩ := srcCells_run hr hy h
      have hone := scs_oneCell hsc hvall
      have hnl : news.length = m * inf'.size := by rw [hvall.1]; exact hvl
      simp only at hsz hby hk
      have cap_ok : ∀ (w : World) (need old : Nat), need * inf'.bytes ≤ room → need ≤ grownCap w need old e ∧ grownCap w need old e ≤ maxLen := fun w need old hb =>
        ⟨grownCap_ge w need old e, grownCap_le_maxLen w need old e (by
          have : need ≤ need * inf'.bytes := Nat.le_mul_of_pos_right _ hby
          simp only [maxLen]; unfold room at hb; omega)⟩
      have zsize : ∀ n, (Builtin.zeroCells zv'.cells n).size = n * zv'.cells.size := fun n => size_zeroCells _ _
      have hzs : zv'.cells.size = inf'.size := by simpa using hzl
      have asize : ∀ (olds : List Value) (n cap : Nat), olds.length = n * inf'.size → n + m ≤ cap → (olds.toArray ++ vs.toArray ++ Builtin.zeroCells zv'.cells (cap - (n + m))).size = cap * inf'.size := by
        intro olds n cap ho hc
        simp only [Array.size_append, List.size_toArray, zsize, hzs, ho, hvl, ← Nat.add_mul]
        congr 1
        omega
      have fits : ∀ {need old : Nat}, old < need → need * inf'.bytes ≤ room → Builtin.nextslicecap need old * inf'.bytes ≤ 281474976710656 := fun h hb => growslice_fits h (by unfold room at hb; omega)
      have small : ∀ {need : Nat}, need * inf'.bytes ≤ room → (need : Int) ≤ 9223372036854775807 := fun {need} hb => by
        have : need ≤ need * inf'.bytes := Nat.le_mul_of_pos_right _ hby
        unfold room at hb; omega
      split at hk
      case h_1 =>
        obtain ⟨hb, hk⟩ := hk
        simp only [VR_nilS] at hx
        subst hx
        by_cases hm0 : m = 0
        · subst hm0
          have hn : news = [] := List.eq_nil_of_length_eq_zero (by simpa using hnl)
          subst hn
          refine ⟨.slice none 0 0, w, _, _, ρ.ext ⟨0, 0, 0, true⟩, hk, run_append_zero ty k2 k1' none 0 0 (Nat.le_refl _) ad c w, ?_, ?_, ρ.le_ext _, same w⟩
          · exact hr.add rfl rfl rfl (Nat.le_refl _) (fun _ _ => rfl) (.inl ⟨by rw [Env.ext_new], rfl⟩) (by simp) (fun ho => by
              rcases ho with ho | ⟨cs, ho, _⟩
              · simp [Owns, Env.ext_new] at ho
              · cases ho)
          · rw [← hr.hp.cnt]; exact ⟨by simp [Env.ext], .inl ⟨by rw [Env.ext_new], rfl, rfl⟩⟩
        · obtain ⟨a', rfl, hcell⟩ := hvs (by omega)
          have hrun := run_append_nil (P := P) w T ty e inf' zv' k2 k1' k3' a' m c vs hvl hcell (by omega) (small hb) (by unfold room at hb; omega)
          obtain ⟨c1, c2⟩ := cap_ok w m 0 hb
          have hg := grown_rel hr (e := e) (sz := inf'.size) (cs := news) (arr := vs.toArray ++ Builtin.zeroCells zv'.cells (grownCap w m 0 e - m)) hnl c1 c2
            (by have := asize [] 0 (grownCap w m 0 e) (by simp) (by omega); simpa using this) (by have := take_app (rest := Builtin.zeroCells zv'.cells (grownCap w m 0 e - m)) (All2.nil (CR ρ)) hvall; simpa using this)
          exact ⟨_, _, _, _, _, hk, hrun, hg.1, hg.2, ρ.le_ext _, grew w _⟩
      case h_2 hh n =>
        obtain ⟨cs, hck, hcl, hb, hk⟩ := hk
        have hcR := hr.hp.at_ hh _ hck
        rcases hx with ⟨hlt, ⟨hnil, rfl, rfl⟩ | ⟨hnil, hncap, rfl⟩⟩
        · have hcs : cs = [] := List.eq_nil_of_length_eq_zero (by simpa using hcl)
          subst hcs
          have hr' := hr.drop hh
          by_cases hm0 : m = 0
          · subst hm0
            have hn : news = [] := List.eq_nil_of_length_eq_zero (by simpa using hnl)
            subst hn
            refine ⟨.slice none 0 0, w, _, _, ρ.ext ⟨0, 0, 0, true⟩, hk, run_append_zero ty k2 k1' none 0 0 (Nat.le_refl _) ad c w, ?_, ?_, ρ.le_ext _, same w⟩
            · exact hr'.add rfl rfl rfl (Nat.le_refl _) (fun _ _ => rfl) (.inl ⟨by rw [Env.ext_new], rfl⟩) (by simp) (fun ho => by
                rcases ho with ho | ⟨cs, ho, _⟩
                · simp [Owns, Env.ext_new] at ho
                · cases ho)
            · rw [← hr.hp.cnt]; exact ⟨by simp [Env.ext], .inl ⟨by rw [Env.ext_new], rfl, rfl⟩⟩
          · obtain ⟨a', rfl, hcell⟩ := hvs (by omega)
            rw [Nat.zero_add] at hb
            have hrun := run_append_nil (P := P) w T ty e inf' zv' k2 k1' k3' a' m c vs hvl hcell (by omega) (small hb) (by unfold room at hb; omega)
            obtain ⟨c1, c2⟩ := cap_ok w m 0 hb
            have hg := grown_rel hr' (e := e) (sz := inf'.size) (cs := news) (arr := vs.toArray ++ Builtin.zeroCells zv'.cells (grownCap w m 0 e - m)) hnl c1 c2
              (by have := asize [] 0 (grownCap w m 0 e) (by simp) (by omega); simpa using this) (by have := take_app (rest := Builtin.zeroCells zv'.cells (grownCap w m 0 e - m)) (All2.nil (CR ρ)) hvall; simpa using this)
            simp only [List.length_set] at hg
            exact ⟨_, _, _, _, _, hk, hrun, by simpa using hg.1, by simpa using hg.2, ρ.le_ext _, grew w _⟩
        · rcases hcR with ⟨hnil', _⟩ | ⟨_, hbase, arr, n', harr, q4, q5, q6, q7, hall⟩
          · rw [hnil] at hnil'; cases hnil'
          · have hnn : n' = n := by
              have := q4.symm.trans hcl
              exact Nat.eq_of_mul_eq_mul_right hsz this
            subst hnn
            rw [hbase]
            have hown : Owns ρ hh (.lst e inf'.size cs) := hnil
            have apart : ∀ h d, (s.H.set hh .gone)[h]? = some d → Occ ρ h d → (ρ h).blk ≠ (ρ hh).blk := by
              intro h d hd hod
              by_cases he : h = hh
              · subst he
                rw [List.getElem?_set] at hd
                simp at hd
                rw [← hd.2] at hod
                rcases hod with hod | ⟨_, hod, _⟩
                · exact hod.elim
                · cases hod
              · rw [List.getElem?_set, if_neg (Ne.symm he)] at hd
                exact (hr.hp.apart hh h _ d (Ne.symm he) hck hd hown hod).symm
            have hblk := hr.own hh _ hck hown
            by_cases hroom : n' + m ≤ (ρ hh).cap
            · by_cases hm0 : m = 0
              · subst hm0
                have hn : news = [] := List.eq_nil_of_length_eq_zero (by simpa using hnl)
                subst hn
                refine ⟨.slice (some ⟨(ρ hh).blk, 0, none⟩) n' (ρ hh).cap, w, _, _, ρ.ext (ρ hh), hk, run_append_zero ty k2 k1' _ n' _ q5 ad c w, ?_, ?_, ρ.le_ext _, same w⟩
                · refine (hr.drop hh).addAt rfl rfl rfl (Nat.le_refl _) (fun _ _ => rfl) (.inr ⟨by rw [Env.ext_new]; exact hnil, by rw [Env.ext_new]; exact hbase, arr, n', by rw [Env.ext_new]; exact harr, by simpa using q4, by rw [Env.ext_new]; exact q5, by rw [Env.ext_new]; exact q6, by rw [Env.ext_new]; exact q7, All2_ext (by simpa using hall)⟩) (by simp) (fun _ => ⟨fun h d hd hod => apart h d hd hod, hblk⟩)
                · rw [← hr.hp.cnt]
                  exact ⟨by simp [Env.ext], .inr ⟨by rw [Env.ext_new]; exact hnil, by rw [Env.ext_new]; exact q5, by rw [Env.ext_new, hbase]; rfl⟩⟩
              · obtain ⟨a', rfl, hcell⟩ := hvs (by omega)
                have hfit : n' * inf'.size + vs.length ≤ arr.size := by rw [hvl, q7, ← Nat.add_mul]; exact Nat.mul_le_mul_right _ hroom
                have hrun := run_append_room (P := P) w T ty e inf' k2 k1' (ρ hh).blk n' (ρ hh).cap arr harr a' m c vs hvl hcell hone hroom hfit
                have hr1 := hr.upd (w' := w.setRow (ρ hh).blk (arr.toList.take (n' * inf'.size) ++ vs ++ arr.toList.drop (n' * inf'.size + vs.length)).toArray) hck hown rfl rfl rfl (by simp [World.setRow]) (fun k _ hk => setRow_other w _ k _ hk) (c' := .gone) trivial (by simp)
                refine ⟨_, _, _, _, ρ.ext (ρ hh), hk, hrun, ?_, ?_, ρ.le_ext _, fun b hb hne => setRow_other w _ b _ (Ne.symm (hne hh _ _ rfl hck hown))⟩
                · refine hr1.addAt rfl rfl rfl (Nat.le_refl _) (fun _ _ => rfl) (.inr ⟨by rw [Env.ext_new]; exact hnil, by rw [Env.ext_new]; exact hbase, _, n' + m, by rw [Env.ext_new]; exact setRow_heap w _ arr _ e _ harr, ?_, by rw [Env.ext_new]; exact hroom, by rw [Env.ext_new]; exact q6, ?_, ?_⟩) (by simp) (fun _ => ⟨fun h d hd hod => apart h d hd hod, hblk⟩)
                  · rw [List.length_append, hcl, hnl, Nat.add_mul]
                  · rw [Env.ext_new]
                    simp only [List.size_toArray, List.length_append, List.length_take, List.length_drop, Array.length_toList]
                    omega
                  · have e9 : (arr.toList.take (n' * inf'.size) ++ vs ++ arr.toList.drop (n' * inf'.size + vs.length)).toArray.toList.take (cs ++ news).length = arr.toList.take cs.length ++ vs := by
                      have e10 : (cs ++ news).length = (arr.toList.take (n' * inf'.size) ++ vs).length := by
                        simp only [List.length_append, List.length_take, Array.length_toList, hcl, hnl, hvl]
                        have : n' * inf'.size ≤ arr.size := by omega
                        omega
                      rw [e10, hcl]
                      exact List.take_left
                    rw [e9]
                    exact All2_ext (hall.append hvall)
                · rw [← hr.hp.cnt]
                  exact ⟨by simp [Env.ext], .inr ⟨by rw [Env.ext_new]; exact hnil, by rw [Env.ext_new]; exact hroom, by rw [Env.ext_new, hbase]⟩⟩
            · obtain ⟨a', rfl, hcell⟩ := hvs (by omega)
              have holds : ∀ j v, (arr.toList.take cs.length)[j]? = some v → w.cell? ((⟨(ρ hh).blk, 0, none⟩ : Addr).add j) = some v := by
                intro j v hj
                have hadd : (⟨(ρ hh).blk, 0, none⟩ : Addr).add j = ⟨(ρ hh).blk, j, none⟩ := by unfold Addr.add; split <;> simp_all
                rw [hadd]
                rw [List.getElem?_take] at hj
                split at hj
                · simpa [World.cell?, harr] using hj
                · cases hj
              have holen : (arr.toList.take cs.length).length = n' * inf'.size := by rw [← hall.1]; exact hcl
              have hrun := run_append_grow (P := P) w T ty e inf' zv' k2 k1' k3' ⟨(ρ hh).blk, 0, none⟩ n' (ρ hh).cap (arr.toList.take cs.length) holen holds a' m c vs hvl hcell (by omega) (small hb) (fits (by omega) hb)
              obtain ⟨c1, c2⟩ := cap_ok w (n' + m) (ρ hh).cap hb
              have hr' := hr.drop hh
              have hg := grown_rel hr' (e := e) (sz := inf'.size) (cs := cs ++ news) (arr := (arr.toList.take cs.length).toArray ++ vs.toArray ++ Builtin.zeroCells zv'.cells (grownCap w (n' + m) (ρ hh).cap e - (n' + m)))
                (by rw [List.length_append, hcl, hnl, Nat.add_mul]) c1 c2 (asize _ _ _ holen c1) (take_app hall hvall)
              simp only [List.length_set] at hg
              exact ⟨_, _, _, _, _, hk, hrun, hg.1, hg.2, ρ.le_ext _, grew w _⟩
      case h_3 hh o n =>
        obtain ⟨hm0, cs, hcs, hb, hk⟩ := hk
        obtain ⟨ovs, hol, hocell, hoall⟩ := cellsAt_run hr.hp hcs
        obtain ⟨a', rfl, hcell⟩ := hvs hm0
        obtain ⟨hlt, oad, oc, rfl, hnc, hcl, hoad⟩ := hx
        obtain rfl := hcl rfl
        have hcl' : cs.length = oc * inf'.size := by rw [hoall.1]; exact hol
        obtain ⟨c1, c2⟩ := cap_ok w (oc + m) oc hb
        have hg := grown_rel hr (e := e) (sz := inf'.size) (cs := cs ++ news) (arr := ovs.toArray ++ vs.toArray ++ Builtin.zeroCells zv'.cells (grownCap w (oc + m) oc e - (oc + m)))
          (by rw [List.length_append, hcl', hnl, Nat.add_mul]) c1 c2 (asize _ _ _ hol c1) (take_app hoall hvall)
        by_cases ho0 : oc = 0
        · subst ho0
          have h0 : ovs = [] := List.eq_nil_of_length_eq_zero (by simpa using hol)
          subst h0
          cases oad with
          | none =>
            have hrun := run_append_nil (P := P) w T ty e inf' zv' k2 k1' k3' a' m c vs hvl hcell hm0 (small (by simpa using hb)) (by rw [Nat.zero_add] at hb; unfold room at hb; omega)
            exact ⟨_, _, _, _, _, hk, hrun, by simpa using hg.1, by simpa using hg.2, ρ.le_ext _, grew w _⟩
          | some oa =>
            have hrun := run_append_grow (P := P) w T ty e inf' zv' k2 k1' k3' oa 0 0 [] (by simp) (by simp) a' m c vs hvl hcell (by omega) (small hb) (fits (by omega) hb)
            exact ⟨_, _, _, _, _, hk, hrun, hg.1, hg.2, ρ.le_ext _, grew w _⟩
        · obtain rfl := hoad (by omega)
          have hrun := run_append_grow (P := P) w T ty e inf' zv' k2 k1' k3' ⟨(ρ hh).blk, (ρ hh).base + o, none⟩ oc oc ovs hol hocell a' m c vs hvl hcell (by omega) (small hb) (fits (by omega) hb)
          exact ⟨_, _, _, _, _, hk, hrun, hg.1, hg.2, ρ.le_ext _, grew w _⟩
      case h_4 => exact hk.elim
    · exact h.elim
  · exact h.elim

end
end Go.Sx
