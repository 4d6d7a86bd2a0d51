/- The fixed run, done once by the kernel; the table that knows it. -/
import Derived.Test.YtkajahlgiglliaaGreatDoorOk
import Derived.Test.YtkajahlgiglliaaGreatDoorChecked
import Derived.Eval
set_option maxRecDepth 100000
namespace R1
open Go Go.AM

def deB : List Int := [0, 1, 56, 2, 57, 49, 28, 3, 61, 58, 42, 50, 38, 29, 17, 4, 62, 47, 59, 36, 45, 43, 51, 22, 53, 39, 33, 30, 24, 18, 12, 5, 63, 55, 48, 27, 60, 41, 37, 16, 46, 35, 44, 21, 52, 32, 23, 11, 54, 26, 40, 15, 34, 20, 31, 10, 25, 14, 19, 9, 13, 8, 7, 6]
def H0 : AHeap := ⟨3, [(0, .cells (deB.map fun n => .int .u8 n) false 0)]⟩

def okB : Option (AV × AHeap) → Bool
  | some (.bool true, _) => true
  | _ => false

theorem run_known : okB (callA tblC (exec tblC 100000) 27 [] H0) = true := by kernel_rfl

theorem of_okB {x : Option (AV × AHeap)} (h : okB x = true) : ∃ H1, x = some (.bool true, H1) := by
  unfold okB at h
  split at h
  · exact ⟨_, rfl⟩
  · cases h

theorem consts0 : Consts 3 H0 := by
  refine ⟨rfl, fun i o hi => ?_⟩
  unfold H0 AHeap.get getO at hi
  simp only at hi
  split at hi
  · rename_i e
    have := Nat.eq_of_beq_eq_true e
    subst this
    cases hi
    exact ⟨by omega, .u8, deB, rfl⟩
  · simp [getO] at hi

theorem nglobals : Go.Proofs.Tryz.prog.globals.size = 3 := by kernel_rfl

theorem known_sim : SimFn Go.Proofs.Tryz.prog 27 (fixedA H0 [] (.bool true)) := by
  obtain ⟨H1, h⟩ := of_okB run_known
  exact fixed_sound tblC_ok (Go.Proofs.Tryz.checked.mixed) h (by rw [nglobals]; exact consts0) (fun _ _ => rfl)

/-- The table: the fixed run at one stroke. -/
noncomputable def tbl (f : FuncId) : Option ADef := cond (Nat.beq f 27) (some (.prim (fixedA H0 [] (.bool true)))) (tblC f)

theorem tbl_ok : TableOk Go.Proofs.Tryz.prog tbl := fun f d h => OkAt.over known_sim hb27 (tblC_at f) d h

end R1
