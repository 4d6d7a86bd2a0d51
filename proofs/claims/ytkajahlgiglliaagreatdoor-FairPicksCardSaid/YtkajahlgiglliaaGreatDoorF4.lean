/- Fair picks: the law. -/
import Derived.Test.YtkajahlgiglliaaGreatDoorF3
set_option maxRecDepth 100000
namespace R1
open Go Go.AM

def bound (w : Int) : Int := if w < 1 then 0 else if 10000 < w then 0 else IntKind.i64.wrap (w * 500)

theorem bound_spec (w : Int) (H : AHeap) : fnA tbl 30 [.int .i64 w] H = some (.int .i64 (bound w), H) := by
  rw [fnA_eq (fn := a30) rfl]
  by_cases h0 : w < 1
  · simp [a30, h0, bound]
  · by_cases h1 : 10000 < w
    · simp [a30, h0, h1, bound]
    · simp [a30, h0, h1, bound]

theorem rbound_spec (w : Int) (H : AHeap) : fnA tbl 31 [.int .i64 w] H = some (.int .i64 (bound w), H) := by
  rw [fnA_eq (fn := a31) rfl]
  by_cases h0 : w < 1
  · simp [a31, h0, bound]
  · by_cases h1 : 10000 < w
    · simp [a31, h0, h1, bound]
    · simp [a31, h0, h1, bound]

/-- The constants are there. -/
def Has0 (H : AHeap) : Prop := ∀ i o, H0.get i = some o → H.get i = some o

theorem known_spec {H : AHeap} (h : Has0 H) : fnA tbl 27 [] H = some (.bool true, H) := by
  show fixedA H0 [] (.bool true) [] H = _
  unfold fixedA
  rw [if_pos ⟨rfl, h⟩]

theorem Has0.keep {H H' : AHeap} (h : Has0 H) (hk : Keeps H H') (hn : 3 ≤ H.next) : Has0 H' := fun i o hi => by
  have := (consts0.2 i o hi).1
  exact (hk.get i (by omega)).trans (h i o hi)

theorem picks_spec {H : AHeap} {s : AV} {l : List Int} (hs : IntsAt H s l) (h0 : Has0 H) (hn : 3 ≤ H.next) (o : BitVec 64) (window : Int) :
    ∃ H', fnA tbl 4 [s, bv o, .int .i64 window] H = some (.bool true, H') := by
  have hlen := hs.len
  by_cases hl : 300 < l.length
  · have hl' : (300 : Int) < (l.length : Int) := by omega
    refine ⟨H, ?_⟩
    rw [fnA_eq (fn := a4) rfl]
    simp [a4, hlen, hl', known_spec h0]
  · have hl' : ¬ ((300 : Int) < (l.length : Int)) := by omega
    have hf := fair_spec hs (by omega) o window
    obtain ⟨H', hr, hk⟩ := rfair_spec hs (by omega) o window
    refine ⟨H', ?_⟩
    rw [fnA_eq (fn := a4) rfl]
    simp [a4, hlen, hl', hf, hr, bound_spec, rbound_spec, known_spec (h0.keep hk hn)]

end R1
