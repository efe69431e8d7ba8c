/- The table of types of this seat's translation, as the symbolic executor reads it. -/
import Derived.Test.YtpakjokbnjbkjaaSxQ
import Derived.Test.YtpakjokbnjbkjaaProg
import Derived.KernelRfl
namespace Go.Sx
def ttL : List (Nat × TI) := [
  (3, ⟨.int .i64, 1, 8, [.int .i64 0]⟩),
  (4, ⟨.bool, 1, 1, [.bool false]⟩),
  (5, ⟨.int .u8, 1, 1, [.int .u8 0]⟩),
  (28, ⟨.int .u64, 1, 8, [.int .u64 0]⟩),
  (34, ⟨.int .u32, 1, 4, [.int .u32 0]⟩),
  (36, ⟨.int .u64, 1, 8, [.int .u64 0]⟩)]
def ttF : List (Nat × TI) → Nat → Option TI
  | [], _ => none
  | (i, x) :: r, t => if i = t then some x else ttF r t
def tt (t : Nat) : Option TI := ttF ttL t
theorem ttL_ok : ttL.map (fun p => tiv Go.Proofs.Try.prog p.1) = ttL.map (fun p => some p.2) := by kernel_rfl
theorem ttF_ok {P : Program} : ∀ (l : List (Nat × TI)), l.map (fun p => tiv P p.1) = l.map (fun p => some p.2) → TIok P (ttF l)
  | [], _ => fun t i h => by simp [ttF] at h
  | (k, x) :: r, h => fun t i ht => by
    simp only [List.map_cons, List.cons.injEq] at h
    simp only [ttF] at ht
    split at ht
    · rename_i hk
      subst hk
      simp only [Option.some.injEq] at ht
      rw [← ht]; exact h.1
    · exact ttF_ok r h.2 t i ht
theorem tok : TIok Go.Proofs.Try.prog tt := ttF_ok ttL ttL_ok
theorem mixed : Go.Proofs.Try.prog.follows .mixedOrders = true := by kernel_rfl
end Go.Sx
