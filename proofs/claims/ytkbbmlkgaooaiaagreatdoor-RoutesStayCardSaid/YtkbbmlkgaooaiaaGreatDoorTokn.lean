/- posture.tokenAt at "a", 0. -/
import Derived.Test.YtkbbmlkgaooaiaaGreatDoorTok
namespace Go.Proofs.YtkbbmlkgaooaiaaGreatDoor
open Go.RowKit Go.Hw

theorem pre_no (s p : ByteArray) (w : World) (h : Lib.hasPrefix s.data.toList p.data.toList = false) :
    Calls Tryz.prog 111 #[.string s, .string p] w fun e w' => e = .returned (.bool false) ∧ w = w' := by
  refine Calls.mono (Tryz.strings_HasPrefix s p w) ?_
  rintro _ _ ⟨rfl, rfl⟩
  exact ⟨by rw [h], rfl⟩

theorem heap_new (w : World) (o : Obj) : (w.alloc o).heap[w.heap.size]? = some o := by
  simp only [World.alloc]; exact Array.getElem?_push_size
theorem size_new (w : World) (o : Obj) : (w.alloc o).heap.size = w.heap.size + 1 := by simp

theorem three (w : World) (o1 o2 o3 : Obj) :
    (((w.alloc o1).alloc o2).alloc o3).heap[w.heap.size]? = some o1 ∧ (((w.alloc o1).alloc o2).alloc o3).heap[w.heap.size + 1]? = some o2 ∧
    (((w.alloc o1).alloc o2).alloc o3).heap[w.heap.size + 1 + 1]? = some o3 ∧ Below w.heap.size w (((w.alloc o1).alloc o2).alloc o3) := by
  refine ⟨?_, ?_, ?_, ?_⟩
  · rw [Below.heap_alloc _ _ _ (by rw [size_new, size_new]; omega), Below.heap_alloc _ _ _ (by rw [size_new]; omega), heap_new]
  · have h := heap_new (w.alloc o1) o2
    rw [size_new] at h
    rw [Below.heap_alloc _ _ _ (by rw [size_new, size_new]; omega), h]
  · have h := heap_new ((w.alloc o1).alloc o2) o3
    rw [size_new, size_new] at h
    exact h
  · refine ((Below.refl _ _).alloc (by simp) _ |>.alloc (by simp) _).alloc (by simp; omega) _

theorem put11 {B0 b : Nat} {w V : World} {t : TypeId} {l} {z0 z1 z2 z3 z4 z5 z6 z7 z8 z9 z10 : Value} (v0 v1 v2 v3 v4 v5 v6 v7 v8 v9 v10 : Value) (hb : Below B0 w V) (hB : B0 ≤ b)
    (hz : V.heap[b]? = some (.cells #[z0, z1, z2, z3, z4, z5, z6, z7, z8, z9, z10] t l)) :
    Below B0 w (((((((((((V.setCell ⟨b, 0, none⟩ v0).setCell ⟨b, 1, none⟩ v1).setCell ⟨b, 2, none⟩ v2).setCell ⟨b, 3, none⟩ v3).setCell ⟨b, 4, none⟩ v4).setCell ⟨b, 5, none⟩ v5).setCell ⟨b, 6, none⟩ v6).setCell ⟨b, 7, none⟩ v7).setCell ⟨b, 8, none⟩ v8).setCell ⟨b, 9, none⟩ v9).setCell ⟨b, 10, none⟩ v10) ∧
    (((((((((((V.setCell ⟨b, 0, none⟩ v0).setCell ⟨b, 1, none⟩ v1).setCell ⟨b, 2, none⟩ v2).setCell ⟨b, 3, none⟩ v3).setCell ⟨b, 4, none⟩ v4).setCell ⟨b, 5, none⟩ v5).setCell ⟨b, 6, none⟩ v6).setCell ⟨b, 7, none⟩ v7).setCell ⟨b, 8, none⟩ v8).setCell ⟨b, 9, none⟩ v9).setCell ⟨b, 10, none⟩ v10).heap[b]? = some (.cells #[v0, v1, v2, v3, v4, v5, v6, v7, v8, v9, v10] t l) := by
  constructor
  · iterate 11 refine Below.setCell ?_ hB _
    exact hb
  · have h := heap_set (heap_set (heap_set (heap_set (heap_set (heap_set (heap_set (heap_set (heap_set (heap_set (heap_set hz 0 v0) 1 v1) 2 v2) 3 v3) 4 v4) 5 v5) 6 v6) 7 v7) 8 v8) 9 v9) 10 v10
    simpa using h

def tokCells : Array Value := #[.string ⟨#[98, 97, 100]⟩, .int .i64 0, .int .i64 0, .string ⟨#[]⟩, .int .i64 0, .int .i64 0, .string ⟨#[]⟩, .int .i64 0, .int .i64 0, .int .i64 0, .int .i64 0]
def zeroCells : Array Value := #[.string ⟨#[]⟩, .int .i64 0, .int .i64 0, .string ⟨#[]⟩, .int .i64 0, .int .i64 0, .string ⟨#[]⟩, .int .i64 0, .int .i64 0, .int .i64 0, .int .i64 0]
def nameCells : Array Value := #[.string ⟨#[110, 97, 109, 101]⟩, .int .i64 0, .int .i64 1, .string ⟨#[97]⟩, .int .i64 0, .int .i64 0, .string ⟨#[]⟩, .int .i64 0, .int .i64 0, .int .i64 0, .int .i64 0]
def signCells : Array Value := #[.string ⟨#[61, 61]⟩, .string ⟨#[33, 61]⟩, .string ⟨#[60, 61]⟩, .string ⟨#[62, 61]⟩, .string ⟨#[38, 38]⟩, .string ⟨#[124, 124]⟩, .string ⟨#[60]⟩, .string ⟨#[62]⟩, .string ⟨#[33]⟩, .string ⟨#[40]⟩, .string ⟨#[41]⟩]

set_option maxRecDepth 100000 in
set_option maxHeartbeats 1000000 in
theorem token_name (w : World) :
    Calls Tryz.prog 93 #[.string ⟨#[97]⟩, .int .i64 0] w fun e w' => e = .returned tokName ∧ Below w.heap.size w w' := by
  go_enter Tryz.func93, Tryz.ntmps93
  go_wp2_with fail
  generalize hW : World.alloc _ (Obj.cells #[_, _, _, _, _, _, _, _, _, _, .string ⟨#[41]⟩] _) = W
  have hB : Below w.heap.size w W := by rw [← hW]; exact (three _ _ _ _).2.2.2
  have h0 : W.heap[w.heap.size]? = some (.cells zeroCells 139 (0, 0)) := by
    rw [← hW]; exact (three _ _ _ _).1
  have h1 : W.heap[w.heap.size + 1]? = some (.cells tokCells 139 (0, 0)) := by
    rw [← hW]; exact (three _ _ _ _).2.1
  have h2 : ∃ t l, W.heap[w.heap.size + 1 + 1]? = some (.cells signCells t l) := by
    rw [← hW]; exact ⟨_, _, (three _ _ _ _).2.2.1⟩
  obtain ⟨t, l, h2⟩ := h2
  have h2 := fun i => cell_of h2 i
  clear hW
  have H0 := Lib.hid h0
  have H1 := Lib.hid h1
  have HB := Lib.hid hB
  have b0 : ((⟨#[97]⟩ : ByteArray)[0]).toNat = 97 := rfl
  have s0 := h2 0
  have s1 := h2 1
  have s2 := h2 2
  have s3 := h2 3
  have s4 := h2 4
  have s5 := h2 5
  have s6 := h2 6
  have s7 := h2 7
  have s8 := h2 8
  have s9 := h2 9
  have s10 := h2 10
  simp only [signCells, List.getElem?_toArray, List.getElem?_cons_zero, List.getElem?_cons_succ] at s0 s1 s2 s3 s4 s5 s6 s7 s8 s9 s10
  clear h0 h1 h2 hB
  refine wp_loop_rounds 12 ?_
  iterate 11
    rw [rounds_succ]
    go_wp2_with (go_at_call 111; refine Calls.mono (pre_no _ _ _ (by rfl)) ?_; rintro _ _ ⟨rfl, rfl⟩)
  rw [rounds_succ]
  go_wp2_with (first | (go_at_call 112; go_in) | (go_at_call 115; go_in))
  refine Calls.mono (token_word (w.heap.size + 1) W H1.out) ?_
  rintro _ V ⟨rfl, hgr, hv⟩
  have hB2 : Below w.heap.size w V := HB.out.grown hgr HB.out.size (by rintro k ⟨⟩; omega)
  have hz : V.heap[w.heap.size]? = some (.cells zeroCells 139 (0, 0)) := by
    rw [hgr.block _ (Nat.lt_of_not_le fun h => by have := H0.out; rw [Array.getElem?_eq_none h] at this; cases this) (by simp)]; exact H0.out
  have v0 := fun i => cell_of hv i
  have z0 := fun i => cell_of hz i
  have a0 := v0 0
  have a1 := v0 1
  have a2 := v0 2
  have a3 := v0 3
  have a4 := v0 4
  have a5 := v0 5
  have a6 := v0 6
  have a7 := v0 7
  have a8 := v0 8
  have a9 := v0 9
  have a10 := v0 10
  have e0 := z0 0
  have e1 := z0 1
  have e2 := z0 2
  have e3 := z0 3
  have e4 := z0 4
  have e5 := z0 5
  have e6 := z0 6
  have e7 := z0 7
  have e8 := z0 8
  have e9 := z0 9
  have e10 := z0 10
  simp only [zeroCells, List.getElem?_toArray, List.getElem?_cons_zero, List.getElem?_cons_succ] at a0 a1 a2 a3 a4 a5 a6 a7 a8 a9 a10 e0 e1 e2 e3 e4 e5 e6 e7 e8 e9 e10
  have fz : ∀ i, V.frozen? ⟨w.heap.size, i, none⟩ = false := fun i => by simp [World.frozen?, hz]
  clear v0 z0 s0 s1 s2 s3 s4 s5 s6 s7 s8 s9 s10
  have HZ := Lib.hid hz
  have HB2 := Lib.hid hB2
  clear hz hB2 hgr hv H0 H1 HB
  go_wp2_with fail
  have hz := HZ.out
  generalize hU : World.setCell _ _ _ = U
  have hu := put11 (.string ⟨#[110, 97, 109, 101]⟩) (.int .i64 0) (.int .i64 1) (.string ⟨#[97]⟩) (.int .i64 0) (.int .i64 0) (.string ⟨#[]⟩) (.int .i64 0) (.int .i64 0) (.int .i64 0) (.int .i64 0) HB2.out (Nat.le_refl _) hz
  rw [hU] at hu
  obtain ⟨hBU, hu⟩ := hu
  clear hU hz e0 e1 e2 e3 e4 e5 e6 e7 e8 e9 e10 a0 a1 a2 a3 a4 a5 a6 a7 a8 a9 a10 fz HZ HB2
  have e := fun i => cell_of hu i
  have HBU := Lib.hid hBU
  have HU := Lib.hid hu
  clear hu hBU
  refine bodyPost_ret (v := tokName) ?_ rfl ⟨rfl, HBU.out⟩
  simp [results, Tryz.results93, go_sem, tokName, e]
end Go.Proofs.YtkbbmlkgaooaiaaGreatDoor
