/- posture.CheckCond at the condition of "a". posture.attrFault at ready()'s attribute. posture.condFault and CheckCond at the condition of "a". -/
import Derived.Test.YtkbbmlkgaooaiaaGreatDoorAnd
import Derived.Test.YtkbbmlkgaooaiaaGreatDoorCheckL
namespace Go.Proofs.YtkbbmlkgaooaiaaGreatDoor
open Go.RowKit Go.Hw

set_option maxRecDepth 100000 in
set_option maxHeartbeats 1000000 in
theorem size_name (w : World) :
    Calls Tryz.prog 96 #[condName] w fun e w' => e = .returned (.tuple #[.int .i64 1, .int .i64 1]) ∧ Below w.heap.size w w' := by
  simp only [condName, condCells]
  go_enter Tryz.func96, Tryz.ntmps96
  go_wp2_with fail
  refine wp_loop_rounds 1 ?_
  rw [rounds_succ]
  go_wp2_with fail
  exact bodyPost_ret (v := .tuple #[.int .i64 1, .int .i64 1]) (by simp [results, Tryz.results96, go_sem]) rfl ⟨rfl, (Below.refl _ _).alloc (Nat.le_refl _) _⟩

set_option maxRecDepth 100000 in
set_option maxHeartbeats 1000000 in
theorem nodeForm_name (w : World) :
    Calls Tryz.prog 119 #[condName] w fun e w' => e = .returned (.bool true) ∧ Below w.heap.size w w' := by
  have n1 : (({data := #[97]} : ByteArray).toList == ({data := #[]} : ByteArray).toList) = false := by rw [ByteArray.toList_eq, ByteArray.toList_eq]; rfl
  simp only [condName, condCells]
  go_enter Tryz.func119, Tryz.ntmps119
  go_wp2_with fail
  exact bodyPost_ret (v := .bool true) (by simp [results, Tryz.results119, go_sem]) rfl ⟨rfl, (Below.refl _ _).alloc (Nat.le_refl _) _⟩

end Go.Proofs.YtkbbmlkgaooaiaaGreatDoor

namespace Go.Proofs.YtkbbmlkgaooaiaaGreatDoor
open Go.RowKit Go.Hw

theorem idx0 (w : World) : (Instr.index 91 (.agg #[.int .i64 0, .int .i64 0, .int .i64 0, .int .i64 0]) (.int .i64 0)).run Tryz.prog w = .ok (.int .i64 0) w := by kernel_rfl
theorem idx1 (w : World) : (Instr.index 91 (.agg #[.int .i64 0, .int .i64 0, .int .i64 0, .int .i64 0]) (.int .i64 1)).run Tryz.prog w = .ok (.int .i64 0) w := by kernel_rfl
theorem idx2 (w : World) : (Instr.index 91 (.agg #[.int .i64 0, .int .i64 0, .int .i64 0, .int .i64 0]) (.int .i64 2)).run Tryz.prog w = .ok (.int .i64 0) w := by kernel_rfl
theorem idx3 (w : World) : (Instr.index 91 (.agg #[.int .i64 0, .int .i64 0, .int .i64 0, .int .i64 0]) (.int .i64 3)).run Tryz.prog w = .ok (.int .i64 0) w := by kernel_rfl

set_option maxRecDepth 100000 in
set_option maxHeartbeats 1000000 in
theorem attrFault_flag (w : World) :
    Calls Tryz.prog 121 #[.agg #[.int .i64 3, .int .i64 1, .string ⟨#[]⟩, .int .i64 0, .int .i64 0, .int .i64 0, .int .i64 0]] w fun e w' => e = .returned (.int .i64 0) ∧ Below w.heap.size w w' := by
  go_enter Tryz.func121, Tryz.ntmps121
  go_wp2_with (go_at_call 61; go_in)
  have hi0 := idx0
  have hi1 := idx1
  have hi2 := idx2
  have hi3 := idx3
  refine wp_loop_rounds 5 ?_
  iterate 4
    rw [rounds_succ]
    go_wp2_with (go_at_call 61; go_in)
  rw [rounds_succ]
  go_wp2_with fail
  exact bodyPost_ret (v := .int .i64 0) (by simp [results, Tryz.results121, go_sem]) rfl ⟨rfl, (Below.refl _ _).alloc (Nat.le_refl _) _⟩
end Go.Proofs.YtkbbmlkgaooaiaaGreatDoor

namespace Go.Proofs.YtkbbmlkgaooaiaaGreatDoor
open Go.RowKit Go.Hw

set_option maxRecDepth 100000 in
set_option maxHeartbeats 1000000 in
theorem isOp_eq (w : World) :
    Calls Tryz.prog 120 #[.string ⟨#[61, 61]⟩] w fun e w' => e = .returned (.bool true) ∧ Below w.heap.size w w' := by
  go_enter Tryz.func120, Tryz.ntmps120
  go_wp2_with fail
  generalize hW : World.alloc _ _ = W
  have hz : ∃ c t l, W.heap[w.heap.size]? = some (.cells c t l) ∧ c = (opList.map Value.string).toArray := by
    rw [← hW]; exact ⟨_, _, _, heap_new _ _, rfl⟩
  have hB : Below w.heap.size w W := by rw [← hW]; exact (Below.refl _ _).alloc (Nat.le_refl _) _
  have HB := Lib.hid hB
  clear hB
  obtain ⟨_, t, l, hz, rfl⟩ := hz
  clear hW
  refine Calls.mono (Tryz.slices_Contains_string w.heap.size 0 6 6 opList ⟨#[61, 61]⟩ W (by decide) (by decide) (fun j hj => ?_)) ?_
  · rw [cell_of hz]
    have : j = 0 ∨ j = 1 ∨ j = 2 ∨ j = 3 ∨ j = 4 ∨ j = 5 := by simp [opList] at hj; omega
    rcases this with rfl | rfl | rfl | rfl | rfl | rfl <;> rfl
  · rintro _ _ ⟨rfl, rfl⟩
    have hc : Lib.containsS (opList.take 6) ⟨#[61, 61]⟩ = true := by decide
    simp only [hc]
    go_wp2_with fail
    exact bodyPost_ret (v := .bool true) (by simp [results, Tryz.results120, go_sem]) rfl ⟨rfl, HB.out⟩

set_option maxRecDepth 100000 in
set_option maxHeartbeats 1000000 in
theorem condFault_name (w : World) :
    Calls Tryz.prog 97 #[condName] w fun e w' => e = .returned (.int .i64 0) ∧ Below w.heap.size w w' := by
  have hk : isKey ⟨#[97]⟩ = true := by decide
  have n1 : (({data := #[97]} : ByteArray).toList == ({data := #[116, 114, 117, 101]} : ByteArray).toList) = false := by rw [ByteArray.toList_eq, ByteArray.toList_eq]; rfl
  have n2 : (({data := #[97]} : ByteArray).toList == ({data := #[102, 97, 108, 115, 101]} : ByteArray).toList) = false := by rw [ByteArray.toList_eq, ByteArray.toList_eq]; rfl
  have b0 : ((⟨#[97]⟩ : ByteArray)[0]).toNat = 97 := rfl
  go_enter Tryz.func97, Tryz.ntmps97
  simp only [condName, condCells]
  go_upto_region 1 with (fail)
  generalize hW : World.alloc _ _ = W
  have hB : Below w.heap.size w W := by rw [← hW]; exact (Below.refl _ _).alloc (Nat.le_refl _) _
  have hz : W.heap[w.heap.size]? = some (.cells condCells 96 (0, 0)) := by rw [← hW]; exact heap_new _ _
  have HB := Lib.hid hB
  clear hB hW
  have v0 := fun i => cell_of hz i
  have a0 := v0 0
  have a1 := v0 1
  have a2 := v0 2
  have a3 := v0 3
  have a4 := v0 4
  have a5 := v0 5
  have a6 := v0 6
  have a7 := v0 7
  have a8 := v0 8
  have a9 := v0 9
  have a10 := v0 10
  simp only [condCells, List.getElem?_toArray, List.getElem?_cons_zero, List.getElem?_cons_succ] at a0 a1 a2 a3 a4 a5 a6 a7 a8 a9 a10
  have HZ := Lib.hid hz
  have HS := Lib.hid (show w.heap.size < W.heap.size from Nat.lt_of_not_le fun h => by rw [Array.getElem?_eq_none h] at hz; cases hz)
  clear v0 hz
  go_wp2_with (go_at_call 61; go_in)
  refine Calls.mono (nodeForm_name W) ?_
  rintro _ V1 ⟨rfl, hU⟩
  have hz := (hU.block _ HS.out).trans HZ.out
  have HB2 := Lib.hid (HB.out.trans (hU.mono (Nat.le_of_lt HS.out)))
  clear a0 a1 a2 a3 a4 a5 a6 a7 a8 a9 a10 HZ HS HB hU
  have HB := HB2
  clear HB2
  have v0 := fun i => cell_of hz i
  have a0 := v0 0
  have a1 := v0 1
  have a2 := v0 2
  have a3 := v0 3
  have a4 := v0 4
  have a5 := v0 5
  have a6 := v0 6
  have a7 := v0 7
  have a8 := v0 8
  have a9 := v0 9
  have a10 := v0 10
  simp only [condCells, List.getElem?_toArray, List.getElem?_cons_zero, List.getElem?_cons_succ] at a0 a1 a2 a3 a4 a5 a6 a7 a8 a9 a10
  have HZ := Lib.hid hz
  have HS := Lib.hid (show w.heap.size < V1.heap.size from Nat.lt_of_not_le fun h => by rw [Array.getElem?_eq_none h] at hz; cases hz)
  clear v0 hz
  go_wp2_with fail
  refine Calls.mono ((isKey_below ⟨#[97]⟩ V1 (by decide)).mono fun e w1 h => (⟨h.1.trans (ret_bool hk), h.2⟩ : e = .returned (.bool true) ∧ Below V1.heap.size V1 w1)) ?_
  rintro _ V2 ⟨rfl, hU⟩
  have hz := (hU.block _ HS.out).trans HZ.out
  have HB2 := Lib.hid (HB.out.trans (hU.mono (Nat.le_of_lt HS.out)))
  clear a0 a1 a2 a3 a4 a5 a6 a7 a8 a9 a10 HZ HS HB hU
  have HB := HB2
  clear HB2
  have v0 := fun i => cell_of hz i
  have a0 := v0 0
  have a1 := v0 1
  have a2 := v0 2
  have a3 := v0 3
  have a4 := v0 4
  have a5 := v0 5
  have a6 := v0 6
  have a7 := v0 7
  have a8 := v0 8
  have a9 := v0 9
  have a10 := v0 10
  simp only [condCells, List.getElem?_toArray, List.getElem?_cons_zero, List.getElem?_cons_succ] at a0 a1 a2 a3 a4 a5 a6 a7 a8 a9 a10
  have HZ := Lib.hid hz
  have HS := Lib.hid (show w.heap.size < V2.heap.size from Nat.lt_of_not_le fun h => by rw [Array.getElem?_eq_none h] at hz; cases hz)
  clear v0 hz
  go_wp2_with (go_at_call 115; go_in)
  refine Calls.mono (isOp_eq V2) ?_
  rintro _ V3 ⟨rfl, hU⟩
  have hz := (hU.block _ HS.out).trans HZ.out
  have HB2 := Lib.hid (HB.out.trans (hU.mono (Nat.le_of_lt HS.out)))
  clear a0 a1 a2 a3 a4 a5 a6 a7 a8 a9 a10 HZ HS HB hU
  have HB := HB2
  clear HB2
  have v0 := fun i => cell_of hz i
  have a0 := v0 0
  have a1 := v0 1
  have a2 := v0 2
  have a3 := v0 3
  have a4 := v0 4
  have a5 := v0 5
  have a6 := v0 6
  have a7 := v0 7
  have a8 := v0 8
  have a9 := v0 9
  have a10 := v0 10
  simp only [condCells, List.getElem?_toArray, List.getElem?_cons_zero, List.getElem?_cons_succ] at a0 a1 a2 a3 a4 a5 a6 a7 a8 a9 a10
  have HZ := Lib.hid hz
  have HS := Lib.hid (show w.heap.size < V3.heap.size from Nat.lt_of_not_le fun h => by rw [Array.getElem?_eq_none h] at hz; cases hz)
  clear v0 hz
  go_wp2_with fail
  refine Calls.mono (attrFault_flag V3) ?_
  rintro _ V4 ⟨rfl, hU⟩
  have hz := (hU.block _ HS.out).trans HZ.out
  have HB2 := Lib.hid (HB.out.trans (hU.mono (Nat.le_of_lt HS.out)))
  clear a0 a1 a2 a3 a4 a5 a6 a7 a8 a9 a10 HZ HS HB hU
  have HB := HB2
  clear HB2
  have v0 := fun i => cell_of hz i
  have a0 := v0 0
  have a1 := v0 1
  have a2 := v0 2
  have a3 := v0 3
  have a4 := v0 4
  have a5 := v0 5
  have a6 := v0 6
  have a7 := v0 7
  have a8 := v0 8
  have a9 := v0 9
  have a10 := v0 10
  simp only [condCells, List.getElem?_toArray, List.getElem?_cons_zero, List.getElem?_cons_succ] at a0 a1 a2 a3 a4 a5 a6 a7 a8 a9 a10
  have HZ := Lib.hid hz
  have HS := Lib.hid (show w.heap.size < V4.heap.size from Nat.lt_of_not_le fun h => by rw [Array.getElem?_eq_none h] at hz; cases hz)
  clear v0 hz
  go_wp2_with fail
  refine wp_loop_rounds 1 ?_
  rw [rounds_succ]
  go_wp2_with fail
  exact bodyPost_ret (v := .int .i64 0) (by simp [results, Tryz.results97, go_sem]) rfl ⟨rfl, HB.out⟩

set_option maxRecDepth 100000 in
set_option maxHeartbeats 1000000 in
theorem checkCond_name (w : World) :
    Calls Tryz.prog 77 #[condName] w fun e w' => e = .returned (.int .i64 0) ∧ Below w.heap.size w w' := by
  go_enter Tryz.func77, Tryz.ntmps77
  simp only [condName, condCells]
  go_upto_region 1 with (fail)
  generalize hW : World.alloc _ _ = W
  have hB : Below w.heap.size w W := by rw [← hW]; exact (Below.refl _ _).alloc (Nat.le_refl _) _
  have hz : W.heap[w.heap.size]? = some (.cells condCells 96 (0, 0)) := by rw [← hW]; exact heap_new _ _
  have HB := Lib.hid hB
  clear hB hW
  have v0 := fun i => cell_of hz i
  have a0 := v0 0
  have a1 := v0 1
  have a2 := v0 2
  have a3 := v0 3
  have a4 := v0 4
  have a5 := v0 5
  have a6 := v0 6
  have a7 := v0 7
  have a8 := v0 8
  have a9 := v0 9
  have a10 := v0 10
  simp only [condCells, List.getElem?_toArray, List.getElem?_cons_zero, List.getElem?_cons_succ] at a0 a1 a2 a3 a4 a5 a6 a7 a8 a9 a10
  have HZ := Lib.hid hz
  have HS := Lib.hid (show w.heap.size < W.heap.size from Nat.lt_of_not_le fun h => by rw [Array.getElem?_eq_none h] at hz; cases hz)
  clear v0 hz
  go_wp2_with fail
  refine Calls.mono (size_name W) ?_
  rintro _ V1 ⟨rfl, hU⟩
  have hz := (hU.block _ HS.out).trans HZ.out
  have HB2 := Lib.hid (HB.out.trans (hU.mono (Nat.le_of_lt HS.out)))
  clear a0 a1 a2 a3 a4 a5 a6 a7 a8 a9 a10 HZ HS HB hU
  have HB := HB2
  clear HB2
  have v0 := fun i => cell_of hz i
  have a0 := v0 0
  have a1 := v0 1
  have a2 := v0 2
  have a3 := v0 3
  have a4 := v0 4
  have a5 := v0 5
  have a6 := v0 6
  have a7 := v0 7
  have a8 := v0 8
  have a9 := v0 9
  have a10 := v0 10
  simp only [condCells, List.getElem?_toArray, List.getElem?_cons_zero, List.getElem?_cons_succ] at a0 a1 a2 a3 a4 a5 a6 a7 a8 a9 a10
  have HZ := Lib.hid hz
  have HS := Lib.hid (show w.heap.size < V1.heap.size from Nat.lt_of_not_le fun h => by rw [Array.getElem?_eq_none h] at hz; cases hz)
  clear v0 hz
  go_wp2_with fail
  refine Calls.mono (condFault_name V1) ?_
  rintro _ V2 ⟨rfl, hU⟩
  have hz := (hU.block _ HS.out).trans HZ.out
  have HB2 := Lib.hid (HB.out.trans (hU.mono (Nat.le_of_lt HS.out)))
  clear a0 a1 a2 a3 a4 a5 a6 a7 a8 a9 a10 HZ HS HB hU
  have HB := HB2
  clear HB2
  have v0 := fun i => cell_of hz i
  have a0 := v0 0
  have a1 := v0 1
  have a2 := v0 2
  have a3 := v0 3
  have a4 := v0 4
  have a5 := v0 5
  have a6 := v0 6
  have a7 := v0 7
  have a8 := v0 8
  have a9 := v0 9
  have a10 := v0 10
  simp only [condCells, List.getElem?_toArray, List.getElem?_cons_zero, List.getElem?_cons_succ] at a0 a1 a2 a3 a4 a5 a6 a7 a8 a9 a10
  have HZ := Lib.hid hz
  have HS := Lib.hid (show w.heap.size < V2.heap.size from Nat.lt_of_not_le fun h => by rw [Array.getElem?_eq_none h] at hz; cases hz)
  clear v0 hz
  go_wp2_with fail
  exact bodyPost_ret (v := .int .i64 0) (by simp [results, Tryz.results77, go_sem]) rfl ⟨rfl, HB.out⟩
end Go.Proofs.YtkbbmlkgaooaiaaGreatDoor
