/- posture.CheckCond at the condition of "a". -/
import Derived.Test.YtphjgjcbolmdiaaGreatDoorAnd
namespace Go.Proofs.YtphjgjcbolmdiaaGreatDoor
open Go.RowKit Go.Hw

set_option maxRecDepth 100000 in
set_option maxHeartbeats 1000000 in
theorem size_name (w : World) :
    Calls Tryz.prog 82 #[condName] w fun e w' => e = .returned (.tuple #[.int .i64 1, .int .i64 1]) ∧ Below w.heap.size w w' := by
  simp only [condName, condCells]
  go_enter Tryz.func82, Tryz.ntmps82
  go_wp2_with fail
  refine wp_loop_rounds 1 ?_
  rw [rounds_succ]
  go_wp2_with fail
  exact bodyPost_ret (v := .tuple #[.int .i64 1, .int .i64 1]) (by simp [results, Tryz.results82, go_sem]) rfl ⟨rfl, (Below.refl _ _).alloc (Nat.le_refl _) _⟩

set_option maxRecDepth 100000 in
set_option maxHeartbeats 1000000 in
theorem nodeForm_name (w : World) :
    Calls Tryz.prog 102 #[condName] w fun e w' => e = .returned (.bool true) ∧ Below w.heap.size w w' := by
  have n1 : (({data := #[97]} : ByteArray).toList == ({data := #[]} : ByteArray).toList) = false := by rw [ByteArray.toList_eq, ByteArray.toList_eq]; rfl
  simp only [condName, condCells]
  go_enter Tryz.func102, Tryz.ntmps102
  go_wp2_with fail
  exact bodyPost_ret (v := .bool true) (by simp [results, Tryz.results102, go_sem]) rfl ⟨rfl, (Below.refl _ _).alloc (Nat.le_refl _) _⟩

end Go.Proofs.YtphjgjcbolmdiaaGreatDoor
