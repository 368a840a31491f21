/- filter.lets, Check, rowsOf without rows; CheckTimes at the law's times. -/
import Derived.Test.YtgmeblgfcmkcgaaGreatDoorTkV
import Derived.Test.YtgmeblgfcmkcgaaGreatDoorPkB
namespace Go.Proofs.YtgmeblgfcmkcgaaGreatDoor
open Go.RowKit Go.Hw

theorem rowIdx_nil (fn : Value) (w : World) : Calls Tryz.prog 97 #[.slice none 0 0, fn] w fun e w' => e = .returned (.int .i64 (-1)) ∧ w = w' := by
  go_enter Tryz.func97, Tryz.ntmps97
  go_wp2_with fail
  refine wp_loop_rounds 1 ?_
  rw [rounds_succ]
  go_wp2_with fail
  go_ret
  exact ⟨rfl, rfl⟩
theorem rowHas_nil (fn : Value) (w : World) : Calls Tryz.prog 62 #[.slice none 0 0, fn] w fun e w' => e = .returned (.bool false) ∧ w = w' := by
  go_enter Tryz.func62, Tryz.ntmps62
  go_wp2_with fail
  refine (rowIdx_nil _ _).mono ?_
  rintro e w1 ⟨rfl, rfl⟩
  go_wp2_with fail
  go_ret
  exact ⟨rfl, rfl⟩
theorem lets_nil (f : Fl) (w : World) : Calls Tryz.prog 27 #[.slice none 0 0, .agg #[.int .i64 f.proto, .bool f.s6, .int .u64 f.sh, .int .u64 f.sl, .bool f.t6, .int .u64 f.th, .int .u64 f.tl, .int .i64 f.fp, .int .i64 f.tp]] w fun e w' => e = .returned (.bool false) ∧ Below w.heap.size w w' := by
  have HB := Lib.hid (bl_alloc w (.cells #[.int .i64 f.proto, .bool f.s6, .int .u64 f.sh, .int .u64 f.sl, .bool f.t6, .int .u64 f.th, .int .u64 f.tl, .int .i64 f.fp, .int .i64 f.tp] 63))
  go_enter Tryz.func27, Tryz.ntmps27
  go_wp2_with fail
  refine (rowHas_nil _ _).mono ?_
  rintro e w1 ⟨rfl, rfl⟩
  go_wp2_with fail
  go_ret
  exact ⟨rfl, HB.out⟩
theorem check_nil (w : World) : Calls Tryz.prog 17 #[.slice none 0 0] w fun e w' => e = .returned (.int .i64 0) ∧ w = w' := by
  go_enter Tryz.func17, Tryz.ntmps17
  go_wp2_with fail
  refine wp_loop_rounds 1 ?_
  rw [rounds_succ]
  go_wp2_with fail
  go_ret
  exact ⟨rfl, rfl⟩
theorem rowsOf_nil (w : World) : Calls Tryz.prog 20 #[.slice none 0 0] w fun e w' => e = .returned (.slice none 0 0) ∧ w = w' := by
  go_enter Tryz.func20, Tryz.ntmps20
  go_wp2_with fail
  refine wp_loop_rounds 1 ?_
  rw [rounds_succ]
  go_wp2_with fail
  go_ret
  exact ⟨rfl, rfl⟩
theorem idxT_0 (w : World) : (Instr.index 113 (.agg #[.int .i64 10, .int .i64 100, .int .i64 5, .int .i64 50]) (.int .i64 0)).run Tryz.prog w = .ok (.int .i64 10) w := by kernel_rfl
theorem idxT_1 (w : World) : (Instr.index 113 (.agg #[.int .i64 10, .int .i64 100, .int .i64 5, .int .i64 50]) (.int .i64 1)).run Tryz.prog w = .ok (.int .i64 100) w := by kernel_rfl
theorem idxT_2 (w : World) : (Instr.index 113 (.agg #[.int .i64 10, .int .i64 100, .int .i64 5, .int .i64 50]) (.int .i64 2)).run Tryz.prog w = .ok (.int .i64 5) w := by kernel_rfl
theorem idxT_3 (w : World) : (Instr.index 113 (.agg #[.int .i64 10, .int .i64 100, .int .i64 5, .int .i64 50]) (.int .i64 3)).run Tryz.prog w = .ok (.int .i64 50) w := by kernel_rfl
theorem checkTimes_law (w : World) : Calls Tryz.prog 18 #[.agg #[.int .i64 10, .int .i64 100, .int .i64 5, .int .i64 50]] w fun e w' => e = .returned (.int .i64 0) ∧ Below w.heap.size w w' := by
  have HB := Lib.hid (bl_alloc w (.cells #[.int .i64 10, .int .i64 100, .int .i64 5, .int .i64 50] 27))
  have i0 := idxT_0
  have i1 := idxT_1
  have i2 := idxT_2
  have i3 := idxT_3
  go_enter Tryz.func18, Tryz.ntmps18
  go_wp2_with fail
  refine wp_loop_rounds 5 ?_
  rw [rounds_succ]
  go_wp2_with fail
  refine (outside_in 10 1 86400 _ (by omega) (by omega)).mono ?_
  rintro e w1 ⟨rfl, rfl⟩
  go_wp2_with fail
  rw [rounds_succ]
  go_wp2_with fail
  refine (outside_in 100 1 86400 _ (by omega) (by omega)).mono ?_
  rintro e w1 ⟨rfl, rfl⟩
  go_wp2_with fail
  rw [rounds_succ]
  go_wp2_with fail
  refine (outside_in 5 1 86400 _ (by omega) (by omega)).mono ?_
  rintro e w1 ⟨rfl, rfl⟩
  go_wp2_with fail
  rw [rounds_succ]
  go_wp2_with fail
  refine (outside_in 50 1 86400 _ (by omega) (by omega)).mono ?_
  rintro e w1 ⟨rfl, rfl⟩
  go_wp2_with fail
  rw [rounds_succ]
  go_wp2_with fail
  go_ret
  exact ⟨rfl, HB.out⟩
end Go.Proofs.YtgmeblgfcmkcgaaGreatDoor
