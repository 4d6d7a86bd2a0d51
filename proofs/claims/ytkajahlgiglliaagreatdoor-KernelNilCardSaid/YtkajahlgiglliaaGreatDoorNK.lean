/- The run with whatever event, done once by the kernel. -/
import Derived.Test.YtkajahlgiglliaaGreatDoorNOk
import Derived.Test.YtkajahlgiglliaaGreatDoorChecked
import Derived.Eval
set_option maxRecDepth 100000
namespace R1
open Go Go.AM

def deB : List Int := [0, 1, 56, 2, 57, 49, 28, 3, 61, 58, 42, 50, 38, 29, 17, 4, 62, 47, 59, 36, 45, 43, 51, 22, 53, 39, 33, 30, 24, 18, 12, 5, 63, 55, 48, 27, 60, 41, 37, 16, 46, 35, 44, 21, 52, 32, 23, 11, 54, 26, 40, 15, 34, 20, 31, 10, 25, 14, 19, 9, 13, 8, 7, 6]
def H0 : AHeap := ⟨3, [(0, .cells (deB.map fun n => .int .u8 n) false 0)]⟩

def okB : Option (AV × AHeap) → Bool
  | some (.bool true, _) => true
  | _ => false

theorem run_nil (a b c d n : Int) : okB (callA tblC (exec tblC 100000) 3 [.agg [.int .i64 a, .int .i64 b, .int .i64 c, .int .u64 d, .int .i64 n]] H0) = true := by kernel_rfl

theorem of_okB {x : Option (AV × AHeap)} (h : okB x = true) : ∃ H1, x = some (.bool true, H1) := by
  unfold okB at h
  split at h
  · exact ⟨_, rfl⟩
  · cases h

theorem consts0 : Consts 3 H0 := by
  refine ⟨rfl, fun i o hi => ?_⟩
  unfold H0 AHeap.get getO at hi
  simp only at hi
  split at hi
  · rename_i e
    have := Nat.eq_of_beq_eq_true e
    subst this
    cases hi
    exact ⟨by omega, .u8, deB, rfl⟩
  · simp [getO] at hi

theorem nglobals : Go.Proofs.Tryz.prog.globals.size = 3 := by kernel_rfl

end R1
