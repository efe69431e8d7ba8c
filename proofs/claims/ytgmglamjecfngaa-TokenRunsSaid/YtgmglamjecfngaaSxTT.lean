/- The table of types of this seat's translation, as the symbolic executor reads it. -/
import Derived.Test.YtgmglamjecfngaaSxQ
import Derived.Test.YtgmglamjecfngaaProg
import Derived.KernelRfl
namespace Go.Sx
def ttL : List (Nat × TI) := [
  (3, ⟨.int .i64, 1, 8, [.int .i64 0]⟩),
  (4, ⟨.bool, 1, 1, [.bool false]⟩),
  (5, ⟨.int .u8, 1, 1, [.int .u8 0]⟩),
  (22, ⟨.slice 3, 1, 24, [.slice none 0 0]⟩),
  (24, ⟨.slice 31, 1, 24, [.slice none 0 0]⟩),
  (25, ⟨.int .i64, 1, 8, [.int .i64 0]⟩),
  (29, ⟨.int .u32, 1, 4, [.int .u32 0]⟩),
  (31, ⟨.struct [(0, 29, 1), (1, 3, 1)], 2, 16, [.int .u32 0, .int .i64 0]⟩),
  (32, ⟨.int .u64, 1, 8, [.int .u64 0]⟩),
  (34, ⟨.slice 85, 1, 24, [.slice none 0 0]⟩),
  (37, ⟨.slice 5, 1, 24, [.slice none 0 0]⟩),
  (49, ⟨.ptr, 1, 8, [.pointer none]⟩),
  (57, ⟨.ptr, 1, 8, [.pointer none]⟩),
  (59, ⟨.ptr, 1, 8, [.pointer none]⟩),
  (61, ⟨.struct [(0, 37, 1), (1, 3, 1), (2, 3, 1)], 3, 40, [.slice none 0 0, .int .i64 0, .int .i64 0]⟩),
  (68, ⟨.array 17 3, 17, 136, [.int .i64 0, .int .i64 0, .int .i64 0, .int .i64 0, .int .i64 0, .int .i64 0, .int .i64 0, .int .i64 0, .int .i64 0, .int .i64 0, .int .i64 0, .int .i64 0, .int .i64 0, .int .i64 0, .int .i64 0, .int .i64 0, .int .i64 0]⟩),
  (69, ⟨.int .i16, 1, 2, [.int .i16 0]⟩),
  (70, ⟨.struct [(0, 69, 1), (1, 69, 1)], 2, 4, [.int .i16 0, .int .i16 0]⟩),
  (75, ⟨.ptr, 1, 8, [.pointer none]⟩),
  (85, ⟨.struct [(0, 5, 1), (1, 3, 1), (2, 3, 1)], 3, 24, [.int .u8 0, .int .i64 0, .int .i64 0]⟩),
  (86, ⟨.ptr, 1, 8, [.pointer none]⟩),
  (92, ⟨.int .u64, 1, 8, [.int .u64 0]⟩),
  (94, ⟨.struct [(0, 37, 1), (1, 3, 1), (2, 92, 1), (3, 3, 1), (4, 25, 1), (5, 4, 1)], 6, 64, [.slice none 0 0, .int .i64 0, .int .u64 0, .int .i64 0, .int .i64 0, .bool false]⟩),
  (103, ⟨.struct [(0, 37, 1), (1, 92, 1), (2, 3, 1)], 3, 40, [.slice none 0 0, .int .u64 0, .int .i64 0]⟩),
  (106, ⟨.struct [(0, 3, 1), (1, 3, 1), (2, 4, 1), (3, 37, 1)], 4, 48, [.int .i64 0, .int .i64 0, .bool false, .slice none 0 0]⟩)]
def ttF : List (Nat × TI) → Nat → Option TI
  | [], _ => none
  | (i, x) :: r, t => if i = t then some x else ttF r t
def tt (t : Nat) : Option TI := ttF ttL t
theorem ttL_ok : ttL.map (fun p => tiv Go.Proofs.Try.prog p.1) = ttL.map (fun p => some p.2) := by kernel_rfl
theorem ttF_ok {P : Program} : ∀ (l : List (Nat × TI)), l.map (fun p => tiv P p.1) = l.map (fun p => some p.2) → TIok P (ttF l)
  | [], _ => fun t i h => by simp [ttF] at h
  | (k, x) :: r, h => fun t i ht => by
    simp only [List.map_cons, List.cons.injEq] at h
    simp only [ttF] at ht
    split at ht
    · rename_i hk
      subst hk
      simp only [Option.some.injEq] at ht
      rw [← ht]; exact h.1
    · exact ttF_ok r h.2 t i ht
theorem tok : TIok Go.Proofs.Try.prog tt := ttF_ok ttL ttL_ok
theorem mixed : Go.Proofs.Try.prog.follows .mixedOrders = true := by kernel_rfl
end Go.Sx
