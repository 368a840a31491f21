/- filter.New without rows, at the law's times. -/
import Derived.Test.YtgmeblgfcmkcgaaGreatDoorTkL
import Derived.Deep.RegionWith
namespace Go.Proofs.YtgmeblgfcmkcgaaGreatDoor
open Go.RowKit Go.Hw

theorem new_law (w : World) : Calls Tryz.prog 5 #[.slice none 0 0, .agg #[.int .i64 10, .int .i64 100, .int .i64 5, .int .i64 50], .int .i64 10] w
    fun e w' => ∃ T, e = .returned (.tuple #[.pointer (some ⟨T, 0, none⟩), .int .i64 0]) ∧ w.heap.size ≤ T ∧ w'.heap[T]? = some (.cells (tkB 0 none 0 0) 61 (0, 0)) ∧ Below w.heap.size w w' := by
  have h4 := al1 w (.cells #[.int .i64 10, .int .i64 100, .int .i64 5, .int .i64 50] 27)
  have HB := bl_alloc w (.cells #[.int .i64 10, .int .i64 100, .int .i64 5, .int .i64 50] 27)
  go_enter Tryz.func5, Tryz.ntmps5
  go_wp2_with fail
  refine (check_nil _).mono ?_
  rintro e w1 ⟨rfl, rfl⟩
  go_wp2_with fail
  refine (checkTimes_law _).mono ?_
  rintro e W1 ⟨rfl, hb1⟩
  have h41 := (hb1.block _ (lt_of_block h4)).trans h4
  have HB1 := Lib.hid (HB.trans (hb1.mono HB.size))
  have c0 : W1.cell? ⟨w.heap.size, 0, none⟩ = some (.int .i64 10) := cell_of h41 0
  have c1 : W1.cell? ⟨w.heap.size, 1, none⟩ = some (.int .i64 100) := cell_of h41 1
  have c2 : W1.cell? ⟨w.heap.size, 2, none⟩ = some (.int .i64 5) := cell_of h41 2
  have c3 : W1.cell? ⟨w.heap.size, 3, none⟩ = some (.int .i64 50) := cell_of h41 3
  clear h4 HB hb1 h41
  go_wp2_with fail
  refine (outside_in 10 1 1000 _ (by omega) (by omega)).mono ?_
  rintro e w1 ⟨rfl, rfl⟩
  go_wp2_with fail
  go_region_with (first
    | (go_at_call 20; refine (rowsOf_nil _).mono ?_; rintro e w1 ⟨rfl, rfl⟩))
  all_goals (
    go_wp2_with fail
    go_ret2
    exact ⟨_, rfl, HB1.out.size, heap_alloc_new _ _, by have h := HB1.out.alloc HB1.out.size (.cells (tkB 0 none 0 0) 61); exact ⟨h.os, h.tape, h.output, h.size, h.block⟩⟩)
end Go.Proofs.YtgmeblgfcmkcgaaGreatDoor
