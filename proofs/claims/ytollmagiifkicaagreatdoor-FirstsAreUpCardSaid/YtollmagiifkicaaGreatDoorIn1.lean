/- laneref1.in. -/
import Derived.Test.YtollmagiifkicaaGreatDoorKey
namespace Go.Proofs.YtollmagiifkicaaGreatDoor
open Go.RowKit Go.Hw Go.Shelf

theorem in1_any (n lo hi : Int) (w : World) :
    Calls Tryz.prog 39 #[.int .i64 n, .int .i64 lo, .int .i64 hi] w fun e w' => e = .returned (.bool (decide (lo ≤ n) && decide (n ≤ hi))) ∧ w = w' := by
  by_cases h : lo ≤ n
  · go_enter Tryz.func39, Tryz.ntmps39
    go_wp2
    go_ret
    exact ⟨ret_bool (by simp; omega), rfl⟩
  · go_enter Tryz.func39, Tryz.ntmps39
    go_wp2
    go_ret
    exact ⟨ret_bool (by simp; omega), rfl⟩
end Go.Proofs.YtollmagiifkicaaGreatDoor
