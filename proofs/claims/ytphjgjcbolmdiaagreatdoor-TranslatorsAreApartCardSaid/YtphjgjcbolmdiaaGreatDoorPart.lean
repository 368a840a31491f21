/- parser.comparison, part at the parser of "a". -/
import Derived.Test.YtphjgjcbolmdiaaGreatDoorNext
namespace Go.Proofs.YtphjgjcbolmdiaaGreatDoor
open Go.RowKit Go.Hw

def opList : List ByteArray := [⟨#[61, 61]⟩, ⟨#[33, 61]⟩, ⟨#[60]⟩, ⟨#[60, 61]⟩, ⟨#[62]⟩, ⟨#[62, 61]⟩]

set_option maxRecDepth 100000 in
set_option maxHeartbeats 1000000 in
theorem isOp_end (w : World) :
    Calls Tryz.prog 103 #[.string ⟨#[101, 110, 100]⟩] w fun e w' => e = .returned (.bool false) ∧ Below w.heap.size w w' := by
  go_enter Tryz.func103, Tryz.ntmps103
  go_wp2_with fail
  generalize hW : World.alloc _ _ = W
  have hz : ∃ c t l, W.heap[w.heap.size]? = some (.cells c t l) ∧ c = (opList.map Value.string).toArray := by
    rw [← hW]; exact ⟨_, _, _, heap_new _ _, rfl⟩
  have hB : Below w.heap.size w W := by rw [← hW]; exact (Below.refl _ _).alloc (Nat.le_refl _) _
  have HB := Lib.hid hB
  clear hB
  obtain ⟨_, t, l, hz, rfl⟩ := hz
  clear hW
  refine Calls.mono (Tryz.slices_Contains_string w.heap.size 0 6 6 opList ⟨#[101, 110, 100]⟩ W (by decide) (by decide) (fun j hj => ?_)) ?_
  · rw [cell_of hz]
    have : j = 0 ∨ j = 1 ∨ j = 2 ∨ j = 3 ∨ j = 4 ∨ j = 5 := by simp [opList] at hj; omega
    rcases this with rfl | rfl | rfl | rfl | rfl | rfl <;> rfl
  · rintro _ _ ⟨rfl, rfl⟩
    have hc : Lib.containsS (opList.take 6) ⟨#[101, 110, 100]⟩ = false := by decide
    simp only [hc]
    go_wp2_with fail
    exact bodyPost_ret (v := .bool false) (by simp [results, Tryz.results103, go_sem]) rfl ⟨rfl, HB.out⟩

def condZero : Array Value := #[.int .i64 0, .string ⟨#[]⟩, .string ⟨#[]⟩, .int .i64 0, .int .i64 0, .string ⟨#[]⟩, .int .i64 0, .int .i64 0, .int .i64 0, .int .i64 0, .slice none 0 0]
def condCells : Array Value := #[.int .i64 1, .string ⟨#[97]⟩, .string ⟨#[61, 61]⟩, .int .i64 3, .int .i64 1, .string ⟨#[]⟩, .int .i64 0, .int .i64 0, .int .i64 0, .int .i64 0, .slice none 0 0]
def condName : Value := .agg condCells

theorem twoP (w : World) (o1 o2 : Obj) :
    ((w.alloc o1).alloc o2).heap[w.heap.size]? = some o1 ∧ ((w.alloc o1).alloc o2).heap[w.heap.size + 1]? = some o2 ∧ Below w.heap.size w ((w.alloc o1).alloc o2) := by
  refine ⟨?_, ?_, ?_⟩
  · rw [Below.heap_alloc _ _ _ (by rw [size_new]; omega), heap_new]
  · have h := heap_new (w.alloc o1) o2
    rw [size_new] at h
    exact h
  · exact ((Below.refl _ _).alloc (Nat.le_refl _) _).alloc (by rw [size_new]; omega) _


set_option maxRecDepth 100000 in
set_option maxHeartbeats 1000000 in
theorem comparison_name (g : Nat) (w : World) (hg : w.heap[g]? = some (.cells parName 119 (0, 0))) :
    Calls Tryz.prog 116 #[.pointer (some ⟨g, 0, none⟩)] w fun e w' => e = .returned condName ∧ w.grownBy w' (some g) ∧
      w'.heap[g]? = some (.cells parEnd 119 (0, 0)) := by
  have c := fun i => cell_of hg i
  have c4 := c 4
  simp only [parName, List.getElem?_toArray, List.getElem?_cons_zero, List.getElem?_cons_succ] at c4
  have hlt : g < w.heap.size := Nat.lt_of_not_le fun h => by rw [Array.getElem?_eq_none h] at hg; cases hg
  have HGB := Lib.hid hg
  clear c hg
  go_enter Tryz.func116, Tryz.ntmps116
  go_wp2_with fail
  generalize hW : World.alloc (World.alloc _ _) _ = W
  have hB : Below w.heap.size w W := by rw [← hW]; exact (twoP _ _ _).2.2
  have h0 : W.heap[w.heap.size]? = some (.cells condZero 81 (0, 0)) := by rw [← hW]; exact (twoP _ _ _).1
  have h1 : W.heap[w.heap.size + 1]? = some (.cells condCells 81 (0, 0)) := by rw [← hW]; exact (twoP _ _ _).2.1
  have hgW : W.heap[g]? = some (.cells parName 119 (0, 0)) := (hB.block g hlt).trans HGB.out
  clear hW c4
  refine Calls.mono (next_second g W hgW) ?_
  rintro _ V ⟨rfl, hgr, hV⟩
  have lt1 : w.heap.size + 1 < W.heap.size := Nat.lt_of_not_le fun h => by rw [Array.getElem?_eq_none h] at h1; cases h1
  have hz : V.heap[w.heap.size]? = some (.cells condZero 81 (0, 0)) := by
    rw [hgr.block _ (by omega) (by simp; omega)]; exact h0
  have hc : V.heap[w.heap.size + 1]? = some (.cells condCells 81 (0, 0)) := by
    rw [hgr.block _ (by omega) (by simp; omega)]; exact h1
  have hG : w.grownBy V (some g) := World.grownBy.trans ⟨hB.os, hB.tape, hB.output, hB.size, fun k hk _ => hB.block k hk⟩ hgr
  have c1 := cell_of hV 1
  simp only [parEnd, List.getElem?_toArray, List.getElem?_cons_zero, List.getElem?_cons_succ] at c1
  have HV := Lib.hid hV
  have HZ := Lib.hid hz
  have HC := Lib.hid hc
  have HG := Lib.hid hG
  have HS := Lib.hid (show w.heap.size + 1 < V.heap.size from Nat.lt_of_lt_of_le lt1 hgr.size)
  clear hV hz hc hG hgr h0 h1 hgW hB HGB lt1
  go_wp2_with fail
  refine Calls.mono (isOp_end V) ?_
  rintro _ U ⟨rfl, hU⟩
  have hs := HS.out
  have hz : U.heap[w.heap.size]? = some (.cells condZero 81 (0, 0)) := (hU.block _ (by omega)).trans HZ.out
  have hc : U.heap[w.heap.size + 1]? = some (.cells condCells 81 (0, 0)) := (hU.block _ (by omega)).trans HC.out
  have hV : U.heap[g]? = some (.cells parEnd 119 (0, 0)) := (hU.block _ (by omega)).trans HV.out
  have hG : w.grownBy U (some g) := HG.out.trans ⟨hU.os, hU.tape, hU.output, hU.size, fun k hk _ => hU.block k hk⟩
  have v0 := fun i => cell_of hc i
  have z0 := fun i => cell_of hz i
  have a0 := v0 0
  have a1 := v0 1
  have a2 := v0 2
  have a3 := v0 3
  have a4 := v0 4
  have a5 := v0 5
  have a6 := v0 6
  have a7 := v0 7
  have a8 := v0 8
  have a9 := v0 9
  have a10 := v0 10
  have e0 := z0 0
  have e1 := z0 1
  have e2 := z0 2
  have e3 := z0 3
  have e4 := z0 4
  have e5 := z0 5
  have e6 := z0 6
  have e7 := z0 7
  have e8 := z0 8
  have e9 := z0 9
  have e10 := z0 10
  simp only [condZero, condCells, List.getElem?_toArray, List.getElem?_cons_zero, List.getElem?_cons_succ] at a0 a1 a2 a3 a4 a5 a6 a7 a8 a9 a10 e0 e1 e2 e3 e4 e5 e6 e7 e8 e9 e10
  have fz : ∀ i, U.frozen? ⟨w.heap.size, i, none⟩ = false := fun i => by simp [World.frozen?, hz]
  have HZ := Lib.hid hz
  have HV := Lib.hid hV
  have HG := Lib.hid hG
  clear v0 z0 hz hc hV hG hU hs c1 HC
  go_wp2_with fail
  generalize hX : World.setCell _ _ _ = X
  have hu := put11 (.int .i64 1) (.string ⟨#[97]⟩) (.string ⟨#[61, 61]⟩) (.int .i64 3) (.int .i64 1) (.string ⟨#[]⟩) (.int .i64 0) (.int .i64 0) (.int .i64 0) (.int .i64 0) (.slice none 0 0) (Below.refl w.heap.size U) (Nat.le_refl _) HZ.out
  rw [hX] at hu
  obtain ⟨hBX, hx⟩ := hu
  have hVX : X.heap[g]? = some (.cells parEnd 119 (0, 0)) := (hBX.block g hlt).trans HV.out
  have hGX : w.grownBy X (some g) := ⟨hBX.os.trans HG.out.os, hBX.tape.trans HG.out.tape, hBX.output.trans HG.out.output, Nat.le_trans HG.out.size hBX.size, fun k hk hne => (hBX.block k hk).trans (HG.out.block k hk hne)⟩
  clear hX a0 e0 a1 e1 a2 e2 a3 e3 a4 e4 a5 e5 a6 e6 a7 e7 a8 e8 a9 e9 a10 e10 fz HZ HV HG
  have e := fun i => cell_of hx i
  have HVX := Lib.hid hVX
  have HGX := Lib.hid hGX
  clear hx hVX hGX hBX
  refine bodyPost_ret (v := condName) ?_ rfl ⟨rfl, HGX.out, HVX.out⟩
  simp [results, Tryz.results116, go_sem, condName, condCells, e]

set_option maxRecDepth 100000 in
set_option maxHeartbeats 1000000 in
theorem part_name (g : Nat) (w : World) (hg : w.heap[g]? = some (.cells parName 119 (0, 0))) :
    Calls Tryz.prog 101 #[.pointer (some ⟨g, 0, none⟩)] w fun e w' => e = .returned condName ∧ w.grownBy w' (some g) ∧
      w'.heap[g]? = some (.cells parEnd 119 (0, 0)) := by
  have c := fun i => cell_of hg i
  have c1 := c 1
  simp only [parName, List.getElem?_toArray, List.getElem?_cons_zero, List.getElem?_cons_succ] at c1
  have hlt : g < w.heap.size := Nat.lt_of_not_le fun h => by rw [Array.getElem?_eq_none h] at hg; cases hg
  have t1 : (({data := #[110, 97, 109, 101]} : ByteArray).toList == ({data := #[33]} : ByteArray).toList) = false := by rw [ByteArray.toList_eq, ByteArray.toList_eq]; rfl
  have t2 : (({data := #[110, 97, 109, 101]} : ByteArray).toList == ({data := #[40]} : ByteArray).toList) = false := by rw [ByteArray.toList_eq, ByteArray.toList_eq]; rfl
  have HGB := Lib.hid hg
  clear c hg
  go_enter Tryz.func101, Tryz.ntmps101
  go_wp2_with fail
  generalize hW : World.alloc _ _ = W
  have hB : Below w.heap.size w W := by rw [← hW]; exact (Below.refl _ _).alloc (Nat.le_refl _) _
  have h0 : W.heap[w.heap.size]? = some (.cells condZero 81 (0, 0)) := by rw [← hW]; exact heap_new _ _
  have hgW : W.heap[g]? = some (.cells parName 119 (0, 0)) := (hB.block g hlt).trans HGB.out
  clear hW c1
  refine Calls.mono (comparison_name g W hgW) ?_
  rintro _ U ⟨rfl, hgr, hV⟩
  have lt1 : w.heap.size < W.heap.size := Nat.lt_of_not_le fun h => by rw [Array.getElem?_eq_none h] at h0; cases h0
  have hz : U.heap[w.heap.size]? = some (.cells condZero 81 (0, 0)) := by
    rw [hgr.block _ (by omega) (by simp; omega)]; exact h0
  have hG : w.grownBy U (some g) := World.grownBy.trans ⟨hB.os, hB.tape, hB.output, hB.size, fun k hk _ => hB.block k hk⟩ hgr
  have z0 := fun i => cell_of hz i
  have e0 := z0 0
  have e1 := z0 1
  have e2 := z0 2
  have e3 := z0 3
  have e4 := z0 4
  have e5 := z0 5
  have e6 := z0 6
  have e7 := z0 7
  have e8 := z0 8
  have e9 := z0 9
  have e10 := z0 10
  simp only [condZero, List.getElem?_toArray, List.getElem?_cons_zero, List.getElem?_cons_succ] at e0 e1 e2 e3 e4 e5 e6 e7 e8 e9 e10
  have fz : ∀ i, U.frozen? ⟨w.heap.size, i, none⟩ = false := fun i => by simp [World.frozen?, hz]
  have HZ := Lib.hid hz
  have HV := Lib.hid hV
  have HG := Lib.hid hG
  clear z0 hz hV hG hgr h0 hgW hB HGB lt1
  simp only [condName, condCells]
  go_wp2_with fail
  generalize hX : World.setCell _ _ _ = X
  have hu := put11 (.int .i64 1) (.string ⟨#[97]⟩) (.string ⟨#[61, 61]⟩) (.int .i64 3) (.int .i64 1) (.string ⟨#[]⟩) (.int .i64 0) (.int .i64 0) (.int .i64 0) (.int .i64 0) (.slice none 0 0) (Below.refl w.heap.size U) (Nat.le_refl _) HZ.out
  rw [hX] at hu
  obtain ⟨hBX, hx⟩ := hu
  have hVX : X.heap[g]? = some (.cells parEnd 119 (0, 0)) := (hBX.block g hlt).trans HV.out
  have hGX : w.grownBy X (some g) := ⟨hBX.os.trans HG.out.os, hBX.tape.trans HG.out.tape, hBX.output.trans HG.out.output, Nat.le_trans HG.out.size hBX.size, fun k hk hne => (hBX.block k hk).trans (HG.out.block k hk hne)⟩
  clear hX e0 e1 e2 e3 e4 e5 e6 e7 e8 e9 e10 fz HZ HV HG
  have e := fun i => cell_of hx i
  have HVX := Lib.hid hVX
  have HGX := Lib.hid hGX
  clear hx hVX hGX hBX
  refine bodyPost_ret (v := condName) ?_ rfl ⟨rfl, HGX.out, HVX.out⟩
  simp [results, Tryz.results101, go_sem, condName, condCells, e]
end Go.Proofs.YtphjgjcbolmdiaaGreatDoor
