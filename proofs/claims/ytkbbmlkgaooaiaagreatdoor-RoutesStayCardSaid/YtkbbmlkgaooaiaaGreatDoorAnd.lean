/- parser.next at the parser of "a": its first and its second call. parser.comparison, part at the parser of "a". posture.joined at one condition, parser.and, parser.cond at the parser of "a". -/
import Derived.Test.YtkbbmlkgaooaiaaGreatDoorTokn
import Derived.Deep.Cut
namespace Go.Proofs.YtkbbmlkgaooaiaaGreatDoor
open Go.RowKit Go.Hw

theorem putTok {b : Nat} {w V : World} {t : TypeId} {l} {z0 z1 z2 z3 z4 z5 z6 z7 z8 z9 z10 z11 z12 z13 : Value} (v0 v1 v2 v3 v4 v5 v6 v7 v8 v9 v10 : Value) (hb : w.grownBy V (some b))
    (hz : V.heap[b]? = some (.cells #[z0, z1, z2, z3, z4, z5, z6, z7, z8, z9, z10, z11, z12, z13] t l)) :
    w.grownBy (((((((((((V.setCell ⟨b, 1, none⟩ v0).setCell ⟨b, 2, none⟩ v1).setCell ⟨b, 3, none⟩ v2).setCell ⟨b, 4, none⟩ v3).setCell ⟨b, 5, none⟩ v4).setCell ⟨b, 6, none⟩ v5).setCell ⟨b, 7, none⟩ v6).setCell ⟨b, 8, none⟩ v7).setCell ⟨b, 9, none⟩ v8).setCell ⟨b, 10, none⟩ v9).setCell ⟨b, 11, none⟩ v10) (some b) ∧
    (((((((((((V.setCell ⟨b, 1, none⟩ v0).setCell ⟨b, 2, none⟩ v1).setCell ⟨b, 3, none⟩ v2).setCell ⟨b, 4, none⟩ v3).setCell ⟨b, 5, none⟩ v4).setCell ⟨b, 6, none⟩ v5).setCell ⟨b, 7, none⟩ v6).setCell ⟨b, 8, none⟩ v7).setCell ⟨b, 9, none⟩ v8).setCell ⟨b, 10, none⟩ v9).setCell ⟨b, 11, none⟩ v10).heap[b]? = some (.cells #[z0, v0, v1, v2, v3, v4, v5, v6, v7, v8, v9, v10, z12, z13] t l) := by
  constructor
  · exact grown_set (grown_set (grown_set (grown_set (grown_set (grown_set (grown_set (grown_set (grown_set (grown_set (grown_set (hb) 1 v0) 2 v1) 3 v2) 4 v3) 5 v4) 6 v5) 7 v6) 8 v7) 9 v8) 10 v9) 11 v10
  · have h := heap_set (heap_set (heap_set (heap_set (heap_set (heap_set (heap_set (heap_set (heap_set (heap_set (heap_set (hz) 1 v0) 2 v1) 3 v2) 4 v3) 5 v4) 6 v5) 7 v6) 8 v7) 9 v8) 10 v9) 11 v10
    simpa using h

def parZero : Array Value := #[.string ⟨#[97]⟩, .string ⟨#[]⟩, .int .i64 0, .int .i64 0, .string ⟨#[]⟩, .int .i64 0, .int .i64 0, .string ⟨#[]⟩, .int .i64 0, .int .i64 0, .int .i64 0, .int .i64 0, .bool false, .int .i64 0]
def parName : Array Value := #[.string ⟨#[97]⟩, .string ⟨#[110, 97, 109, 101]⟩, .int .i64 0, .int .i64 1, .string ⟨#[97]⟩, .int .i64 0, .int .i64 0, .string ⟨#[]⟩, .int .i64 0, .int .i64 0, .int .i64 0, .int .i64 0, .bool false, .int .i64 0]
def parEnd : Array Value := #[.string ⟨#[97]⟩, .string ⟨#[101, 110, 100]⟩, .int .i64 1, .int .i64 0, .string ⟨#[]⟩, .int .i64 0, .int .i64 0, .string ⟨#[]⟩, .int .i64 0, .int .i64 0, .int .i64 0, .int .i64 0, .bool false, .int .i64 0]

set_option maxRecDepth 100000 in
set_option maxHeartbeats 1000000 in
theorem next_first (g : Nat) (w : World) (hg : w.heap[g]? = some (.cells parZero 141 (0, 0))) :
    Calls Tryz.prog 74 #[.pointer (some ⟨g, 0, none⟩)] w fun e w' => e = .returned (.tuple #[]) ∧ w.grownBy w' (some g) ∧
      w'.heap[g]? = some (.cells parName 141 (0, 0)) := by
  have b0 : ((⟨#[97]⟩ : ByteArray)[0]).toNat = 97 := rfl
  have c := fun i => cell_of hg i
  have c0 := c 0
  have c3 := c 3
  simp only [parZero, List.getElem?_toArray, List.getElem?_cons_zero, List.getElem?_cons_succ] at c0 c3
  have HGB := Lib.hid hg
  clear c hg
  go_enter Tryz.func74, Tryz.ntmps74
  go_wp2_with fail
  refine wp_loop_rounds 1 ?_
  rw [rounds_succ]
  go_wp2_with fail
  refine Calls.mono (token_name w) ?_
  rintro _ V ⟨rfl, hB⟩
  have hg := HGB.out
  have hlt : g < w.heap.size := Nat.lt_of_not_le fun h => by rw [Array.getElem?_eq_none h] at hg; cases hg
  have hV : V.heap[g]? = some (.cells parZero 141 (0, 0)) := (hB.block g hlt).trans hg
  have hgr : w.grownBy V (some g) := ⟨hB.os, hB.tape, hB.output, hB.size, fun k hk _ => hB.block k hk⟩
  have d := fun i => cell_of hV i
  have d1 := d 1
  have d2 := d 2
  have d3 := d 3
  have d4 := d 4
  have d5 := d 5
  have d6 := d 6
  have d7 := d 7
  have d8 := d 8
  have d9 := d 9
  have d10 := d 10
  have d11 := d 11
  simp only [parZero, List.getElem?_toArray, List.getElem?_cons_zero, List.getElem?_cons_succ] at d1 d2 d3 d4 d5 d6 d7 d8 d9 d10 d11
  have f : ∀ i, V.frozen? ⟨g, i, none⟩ = false := fun i => by simp [World.frozen?, hV]
  have HP := Lib.hid (putTok (.string ⟨#[110, 97, 109, 101]⟩) (.int .i64 0) (.int .i64 1) (.string ⟨#[97]⟩) (.int .i64 0) (.int .i64 0) (.string ⟨#[]⟩) (.int .i64 0) (.int .i64 0) (.int .i64 0) (.int .i64 0) hgr hV)
  clear d hV hgr hB hg HGB c0 c3
  simp only [tokName]
  go_wp2_with fail
  exact bodyPost_end (v := .tuple #[]) (by simp [results, Tryz.results74, go_sem]) rfl ⟨rfl, HP.out⟩

set_option maxRecDepth 100000 in
set_option maxHeartbeats 1000000 in
theorem next_second (g : Nat) (w : World) (hg : w.heap[g]? = some (.cells parName 141 (0, 0))) :
    Calls Tryz.prog 74 #[.pointer (some ⟨g, 0, none⟩)] w fun e w' => e = .returned (.tuple #[]) ∧ w.grownBy w' (some g) ∧
      w'.heap[g]? = some (.cells parEnd 141 (0, 0)) := by
  have b0 : ((⟨#[97]⟩ : ByteArray)[0]).toNat = 97 := rfl
  have c := fun i => cell_of hg i
  have c0 := c 0
  have c3 := c 3
  simp only [parName, List.getElem?_toArray, List.getElem?_cons_zero, List.getElem?_cons_succ] at c0 c3
  have HGB := Lib.hid hg
  clear c hg
  go_enter Tryz.func74, Tryz.ntmps74
  go_wp2_with fail
  refine wp_loop_rounds 1 ?_
  rw [rounds_succ]
  go_wp2_with fail
  refine Calls.mono (token_end w) ?_
  rintro _ V ⟨rfl, hB⟩
  have hg := HGB.out
  have hlt : g < w.heap.size := Nat.lt_of_not_le fun h => by rw [Array.getElem?_eq_none h] at hg; cases hg
  have hV : V.heap[g]? = some (.cells parName 141 (0, 0)) := (hB.block g hlt).trans hg
  have hgr : w.grownBy V (some g) := ⟨hB.os, hB.tape, hB.output, hB.size, fun k hk _ => hB.block k hk⟩
  have d := fun i => cell_of hV i
  have d1 := d 1
  have d2 := d 2
  have d3 := d 3
  have d4 := d 4
  have d5 := d 5
  have d6 := d 6
  have d7 := d 7
  have d8 := d 8
  have d9 := d 9
  have d10 := d 10
  have d11 := d 11
  simp only [parName, List.getElem?_toArray, List.getElem?_cons_zero, List.getElem?_cons_succ] at d1 d2 d3 d4 d5 d6 d7 d8 d9 d10 d11
  have f : ∀ i, V.frozen? ⟨g, i, none⟩ = false := fun i => by simp [World.frozen?, hV]
  have HP := Lib.hid (putTok (.string ⟨#[101, 110, 100]⟩) (.int .i64 1) (.int .i64 0) (.string ⟨#[]⟩) (.int .i64 0) (.int .i64 0) (.string ⟨#[]⟩) (.int .i64 0) (.int .i64 0) (.int .i64 0) (.int .i64 0) hgr hV)
  clear d hV hgr hB hg HGB c0 c3
  simp only [tokEnd]
  go_wp2_with fail
  exact bodyPost_end (v := .tuple #[]) (by simp [results, Tryz.results74, go_sem]) rfl ⟨rfl, HP.out⟩
end Go.Proofs.YtkbbmlkgaooaiaaGreatDoor

namespace Go.Proofs.YtkbbmlkgaooaiaaGreatDoor
open Go.RowKit Go.Hw

def opList : List ByteArray := [⟨#[61, 61]⟩, ⟨#[33, 61]⟩, ⟨#[60]⟩, ⟨#[60, 61]⟩, ⟨#[62]⟩, ⟨#[62, 61]⟩]

set_option maxRecDepth 100000 in
set_option maxHeartbeats 1000000 in
theorem isOp_end (w : World) :
    Calls Tryz.prog 120 #[.string ⟨#[101, 110, 100]⟩] w fun e w' => e = .returned (.bool false) ∧ Below w.heap.size w w' := by
  go_enter Tryz.func120, Tryz.ntmps120
  go_wp2_with fail
  generalize hW : World.alloc _ _ = W
  have hz : ∃ c t l, W.heap[w.heap.size]? = some (.cells c t l) ∧ c = (opList.map Value.string).toArray := by
    rw [← hW]; exact ⟨_, _, _, heap_new _ _, rfl⟩
  have hB : Below w.heap.size w W := by rw [← hW]; exact (Below.refl _ _).alloc (Nat.le_refl _) _
  have HB := Lib.hid hB
  clear hB
  obtain ⟨_, t, l, hz, rfl⟩ := hz
  clear hW
  refine Calls.mono (Tryz.slices_Contains_string w.heap.size 0 6 6 opList ⟨#[101, 110, 100]⟩ W (by decide) (by decide) (fun j hj => ?_)) ?_
  · rw [cell_of hz]
    have : j = 0 ∨ j = 1 ∨ j = 2 ∨ j = 3 ∨ j = 4 ∨ j = 5 := by simp [opList] at hj; omega
    rcases this with rfl | rfl | rfl | rfl | rfl | rfl <;> rfl
  · rintro _ _ ⟨rfl, rfl⟩
    have hc : Lib.containsS (opList.take 6) ⟨#[101, 110, 100]⟩ = false := by decide
    simp only [hc]
    go_wp2_with fail
    exact bodyPost_ret (v := .bool false) (by simp [results, Tryz.results120, go_sem]) rfl ⟨rfl, HB.out⟩

def condZero : Array Value := #[.int .i64 0, .string ⟨#[]⟩, .string ⟨#[]⟩, .int .i64 0, .int .i64 0, .string ⟨#[]⟩, .int .i64 0, .int .i64 0, .int .i64 0, .int .i64 0, .slice none 0 0]
def condCells : Array Value := #[.int .i64 1, .string ⟨#[97]⟩, .string ⟨#[61, 61]⟩, .int .i64 3, .int .i64 1, .string ⟨#[]⟩, .int .i64 0, .int .i64 0, .int .i64 0, .int .i64 0, .slice none 0 0]
def condName : Value := .agg condCells

theorem twoP (w : World) (o1 o2 : Obj) :
    ((w.alloc o1).alloc o2).heap[w.heap.size]? = some o1 ∧ ((w.alloc o1).alloc o2).heap[w.heap.size + 1]? = some o2 ∧ Below w.heap.size w ((w.alloc o1).alloc o2) := by
  refine ⟨?_, ?_, ?_⟩
  · rw [Below.heap_alloc _ _ _ (by rw [size_new]; omega), heap_new]
  · have h := heap_new (w.alloc o1) o2
    rw [size_new] at h
    exact h
  · exact ((Below.refl _ _).alloc (Nat.le_refl _) _).alloc (by rw [size_new]; omega) _


set_option maxRecDepth 100000 in
set_option maxHeartbeats 1000000 in
theorem comparison_name (g : Nat) (w : World) (hg : w.heap[g]? = some (.cells parName 141 (0, 0))) :
    Calls Tryz.prog 134 #[.pointer (some ⟨g, 0, none⟩)] w fun e w' => e = .returned condName ∧ w.grownBy w' (some g) ∧
      w'.heap[g]? = some (.cells parEnd 141 (0, 0)) := by
  have c := fun i => cell_of hg i
  have c4 := c 4
  simp only [parName, List.getElem?_toArray, List.getElem?_cons_zero, List.getElem?_cons_succ] at c4
  have hlt : g < w.heap.size := Nat.lt_of_not_le fun h => by rw [Array.getElem?_eq_none h] at hg; cases hg
  have HGB := Lib.hid hg
  clear c hg
  go_enter Tryz.func134, Tryz.ntmps134
  go_wp2_with fail
  generalize hW : World.alloc (World.alloc _ _) _ = W
  have hB : Below w.heap.size w W := by rw [← hW]; exact (twoP _ _ _).2.2
  have h0 : W.heap[w.heap.size]? = some (.cells condZero 96 (0, 0)) := by rw [← hW]; exact (twoP _ _ _).1
  have h1 : W.heap[w.heap.size + 1]? = some (.cells condCells 96 (0, 0)) := by rw [← hW]; exact (twoP _ _ _).2.1
  have hgW : W.heap[g]? = some (.cells parName 141 (0, 0)) := (hB.block g hlt).trans HGB.out
  clear hW c4
  refine Calls.mono (next_second g W hgW) ?_
  rintro _ V ⟨rfl, hgr, hV⟩
  have lt1 : w.heap.size + 1 < W.heap.size := Nat.lt_of_not_le fun h => by rw [Array.getElem?_eq_none h] at h1; cases h1
  have hz : V.heap[w.heap.size]? = some (.cells condZero 96 (0, 0)) := by
    rw [hgr.block _ (by omega) (by simp; omega)]; exact h0
  have hc : V.heap[w.heap.size + 1]? = some (.cells condCells 96 (0, 0)) := by
    rw [hgr.block _ (by omega) (by simp; omega)]; exact h1
  have hG : w.grownBy V (some g) := World.grownBy.trans ⟨hB.os, hB.tape, hB.output, hB.size, fun k hk _ => hB.block k hk⟩ hgr
  have c1 := cell_of hV 1
  simp only [parEnd, List.getElem?_toArray, List.getElem?_cons_zero, List.getElem?_cons_succ] at c1
  have HV := Lib.hid hV
  have HZ := Lib.hid hz
  have HC := Lib.hid hc
  have HG := Lib.hid hG
  have HS := Lib.hid (show w.heap.size + 1 < V.heap.size from Nat.lt_of_lt_of_le lt1 hgr.size)
  clear hV hz hc hG hgr h0 h1 hgW hB HGB lt1
  go_wp2_with fail
  refine Calls.mono (isOp_end V) ?_
  rintro _ U ⟨rfl, hU⟩
  have hs := HS.out
  have hz : U.heap[w.heap.size]? = some (.cells condZero 96 (0, 0)) := (hU.block _ (by omega)).trans HZ.out
  have hc : U.heap[w.heap.size + 1]? = some (.cells condCells 96 (0, 0)) := (hU.block _ (by omega)).trans HC.out
  have hV : U.heap[g]? = some (.cells parEnd 141 (0, 0)) := (hU.block _ (by omega)).trans HV.out
  have hG : w.grownBy U (some g) := HG.out.trans ⟨hU.os, hU.tape, hU.output, hU.size, fun k hk _ => hU.block k hk⟩
  have v0 := fun i => cell_of hc i
  have z0 := fun i => cell_of hz i
  have a0 := v0 0
  have a1 := v0 1
  have a2 := v0 2
  have a3 := v0 3
  have a4 := v0 4
  have a5 := v0 5
  have a6 := v0 6
  have a7 := v0 7
  have a8 := v0 8
  have a9 := v0 9
  have a10 := v0 10
  have e0 := z0 0
  have e1 := z0 1
  have e2 := z0 2
  have e3 := z0 3
  have e4 := z0 4
  have e5 := z0 5
  have e6 := z0 6
  have e7 := z0 7
  have e8 := z0 8
  have e9 := z0 9
  have e10 := z0 10
  simp only [condZero, condCells, List.getElem?_toArray, List.getElem?_cons_zero, List.getElem?_cons_succ] at a0 a1 a2 a3 a4 a5 a6 a7 a8 a9 a10 e0 e1 e2 e3 e4 e5 e6 e7 e8 e9 e10
  have fz : ∀ i, U.frozen? ⟨w.heap.size, i, none⟩ = false := fun i => by simp [World.frozen?, hz]
  have HZ := Lib.hid hz
  have HV := Lib.hid hV
  have HG := Lib.hid hG
  clear v0 z0 hz hc hV hG hU hs c1 HC
  go_wp2_with fail
  generalize hX : World.setCell _ _ _ = X
  have hu := put11 (.int .i64 1) (.string ⟨#[97]⟩) (.string ⟨#[61, 61]⟩) (.int .i64 3) (.int .i64 1) (.string ⟨#[]⟩) (.int .i64 0) (.int .i64 0) (.int .i64 0) (.int .i64 0) (.slice none 0 0) (Below.refl w.heap.size U) (Nat.le_refl _) HZ.out
  rw [hX] at hu
  obtain ⟨hBX, hx⟩ := hu
  have hVX : X.heap[g]? = some (.cells parEnd 141 (0, 0)) := (hBX.block g hlt).trans HV.out
  have hGX : w.grownBy X (some g) := ⟨hBX.os.trans HG.out.os, hBX.tape.trans HG.out.tape, hBX.output.trans HG.out.output, Nat.le_trans HG.out.size hBX.size, fun k hk hne => (hBX.block k hk).trans (HG.out.block k hk hne)⟩
  clear hX a0 e0 a1 e1 a2 e2 a3 e3 a4 e4 a5 e5 a6 e6 a7 e7 a8 e8 a9 e9 a10 e10 fz HZ HV HG
  have e := fun i => cell_of hx i
  have HVX := Lib.hid hVX
  have HGX := Lib.hid hGX
  clear hx hVX hGX hBX
  refine bodyPost_ret (v := condName) ?_ rfl ⟨rfl, HGX.out, HVX.out⟩
  simp [results, Tryz.results134, go_sem, condName, condCells, e]

set_option maxRecDepth 100000 in
set_option maxHeartbeats 1000000 in
theorem part_name (g : Nat) (w : World) (hg : w.heap[g]? = some (.cells parName 141 (0, 0))) :
    Calls Tryz.prog 118 #[.pointer (some ⟨g, 0, none⟩)] w fun e w' => e = .returned condName ∧ w.grownBy w' (some g) ∧
      w'.heap[g]? = some (.cells parEnd 141 (0, 0)) := by
  have c := fun i => cell_of hg i
  have c1 := c 1
  simp only [parName, List.getElem?_toArray, List.getElem?_cons_zero, List.getElem?_cons_succ] at c1
  have hlt : g < w.heap.size := Nat.lt_of_not_le fun h => by rw [Array.getElem?_eq_none h] at hg; cases hg
  have t1 : (({data := #[110, 97, 109, 101]} : ByteArray).toList == ({data := #[33]} : ByteArray).toList) = false := by rw [ByteArray.toList_eq, ByteArray.toList_eq]; rfl
  have t2 : (({data := #[110, 97, 109, 101]} : ByteArray).toList == ({data := #[40]} : ByteArray).toList) = false := by rw [ByteArray.toList_eq, ByteArray.toList_eq]; rfl
  have HGB := Lib.hid hg
  clear c hg
  go_enter Tryz.func118, Tryz.ntmps118
  go_wp2_with fail
  generalize hW : World.alloc _ _ = W
  have hB : Below w.heap.size w W := by rw [← hW]; exact (Below.refl _ _).alloc (Nat.le_refl _) _
  have h0 : W.heap[w.heap.size]? = some (.cells condZero 96 (0, 0)) := by rw [← hW]; exact heap_new _ _
  have hgW : W.heap[g]? = some (.cells parName 141 (0, 0)) := (hB.block g hlt).trans HGB.out
  clear hW c1
  refine Calls.mono (comparison_name g W hgW) ?_
  rintro _ U ⟨rfl, hgr, hV⟩
  have lt1 : w.heap.size < W.heap.size := Nat.lt_of_not_le fun h => by rw [Array.getElem?_eq_none h] at h0; cases h0
  have hz : U.heap[w.heap.size]? = some (.cells condZero 96 (0, 0)) := by
    rw [hgr.block _ (by omega) (by simp; omega)]; exact h0
  have hG : w.grownBy U (some g) := World.grownBy.trans ⟨hB.os, hB.tape, hB.output, hB.size, fun k hk _ => hB.block k hk⟩ hgr
  have z0 := fun i => cell_of hz i
  have e0 := z0 0
  have e1 := z0 1
  have e2 := z0 2
  have e3 := z0 3
  have e4 := z0 4
  have e5 := z0 5
  have e6 := z0 6
  have e7 := z0 7
  have e8 := z0 8
  have e9 := z0 9
  have e10 := z0 10
  simp only [condZero, List.getElem?_toArray, List.getElem?_cons_zero, List.getElem?_cons_succ] at e0 e1 e2 e3 e4 e5 e6 e7 e8 e9 e10
  have fz : ∀ i, U.frozen? ⟨w.heap.size, i, none⟩ = false := fun i => by simp [World.frozen?, hz]
  have HZ := Lib.hid hz
  have HV := Lib.hid hV
  have HG := Lib.hid hG
  clear z0 hz hV hG hgr h0 hgW hB HGB lt1
  simp only [condName, condCells]
  go_wp2_with fail
  generalize hX : World.setCell _ _ _ = X
  have hu := put11 (.int .i64 1) (.string ⟨#[97]⟩) (.string ⟨#[61, 61]⟩) (.int .i64 3) (.int .i64 1) (.string ⟨#[]⟩) (.int .i64 0) (.int .i64 0) (.int .i64 0) (.int .i64 0) (.slice none 0 0) (Below.refl w.heap.size U) (Nat.le_refl _) HZ.out
  rw [hX] at hu
  obtain ⟨hBX, hx⟩ := hu
  have hVX : X.heap[g]? = some (.cells parEnd 141 (0, 0)) := (hBX.block g hlt).trans HV.out
  have hGX : w.grownBy X (some g) := ⟨hBX.os.trans HG.out.os, hBX.tape.trans HG.out.tape, hBX.output.trans HG.out.output, Nat.le_trans HG.out.size hBX.size, fun k hk hne => (hBX.block k hk).trans (HG.out.block k hk hne)⟩
  clear hX e0 e1 e2 e3 e4 e5 e6 e7 e8 e9 e10 fz HZ HV HG
  have e := fun i => cell_of hx i
  have HVX := Lib.hid hVX
  have HGX := Lib.hid hGX
  clear hx hVX hGX hBX
  refine bodyPost_ret (v := condName) ?_ rfl ⟨rfl, HGX.out, HVX.out⟩
  simp [results, Tryz.results118, go_sem, condName, condCells, e]
end Go.Proofs.YtkbbmlkgaooaiaaGreatDoor

namespace Go.Proofs.YtkbbmlkgaooaiaaGreatDoor
open Go.RowKit Go.Hw

set_option maxRecDepth 100000 in
set_option maxHeartbeats 1000000 in
theorem joined_one (k : Int) (b : Nat) (t : TypeId) (l) (w : World) (hb : w.heap[b]? = some (.cells condCells t l)) :
    Calls Tryz.prog 95 #[.int .i64 k, .slice (some ⟨b, 0, none⟩) 1 1] w fun e w' => e = .returned condName ∧ Below w.heap.size w w' := by
  have hlt : b < w.heap.size := Nat.lt_of_not_le fun h => by rw [Array.getElem?_eq_none h] at hb; cases hb
  have HB := Lib.hid hb
  clear hb
  go_enter Tryz.func95, Tryz.ntmps95
  go_upto_region 2 with (fail)
  generalize hW : World.alloc _ _ = U
  have hB : Below w.heap.size w U := by rw [← hW]; exact (Below.refl _ _).alloc (Nat.le_refl _) _
  have hz : U.heap[w.heap.size]? = some (.cells condZero 96 (0, 0)) := by rw [← hW]; exact heap_new _ _
  have hbW : U.heap[b]? = some (.cells condCells t l) := (hB.block b hlt).trans HB.out
  clear hW
  have v0 := fun i => cell_of hbW i
  have z0 := fun i => cell_of hz i
  have a0 := v0 0
  have a1 := v0 1
  have a2 := v0 2
  have a3 := v0 3
  have a4 := v0 4
  have a5 := v0 5
  have a6 := v0 6
  have a7 := v0 7
  have a8 := v0 8
  have a9 := v0 9
  have a10 := v0 10
  have e0 := z0 0
  have e1 := z0 1
  have e2 := z0 2
  have e3 := z0 3
  have e4 := z0 4
  have e5 := z0 5
  have e6 := z0 6
  have e7 := z0 7
  have e8 := z0 8
  have e9 := z0 9
  have e10 := z0 10
  simp only [condZero, condCells, List.getElem?_toArray, List.getElem?_cons_zero, List.getElem?_cons_succ] at a0 a1 a2 a3 a4 a5 a6 a7 a8 a9 a10 e0 e1 e2 e3 e4 e5 e6 e7 e8 e9 e10
  have fz : ∀ i, U.frozen? ⟨w.heap.size, i, none⟩ = false := fun i => by simp [World.frozen?, hz]
  have HZ := Lib.hid hz
  have HU := Lib.hid hB
  clear v0 z0 hz hbW hB HB
  go_wp2_with fail
  generalize hX : World.setCell _ _ _ = X
  have hu := put11 (.int .i64 1) (.string ⟨#[97]⟩) (.string ⟨#[61, 61]⟩) (.int .i64 3) (.int .i64 1) (.string ⟨#[]⟩) (.int .i64 0) (.int .i64 0) (.int .i64 0) (.int .i64 0) (.slice none 0 0) HU.out (Nat.le_refl _) HZ.out
  rw [hX] at hu
  obtain ⟨hBX, hx⟩ := hu
  clear hX a0 a1 a2 a3 a4 a5 a6 a7 a8 a9 a10 e0 e1 e2 e3 e4 e5 e6 e7 e8 e9 e10 fz HZ HU
  have e := fun i => cell_of hx i
  have HBX := Lib.hid hBX
  clear hx hBX
  refine bodyPost_ret (v := condName) ?_ rfl ⟨rfl, HBX.out⟩
  simp [results, Tryz.results95, go_sem, condName, condCells, e]

set_option maxRecDepth 100000 in
set_option maxHeartbeats 1000000 in
theorem and_name (g : Nat) (w : World) (hg : w.heap[g]? = some (.cells parName 141 (0, 0))) :
    Calls Tryz.prog 94 #[.pointer (some ⟨g, 0, none⟩)] w fun e w' => e = .returned condName ∧ w.grownBy w' (some g) ∧
      w'.heap[g]? = some (.cells parEnd 141 (0, 0)) := by
  have hlt : g < w.heap.size := Nat.lt_of_not_le fun h => by rw [Array.getElem?_eq_none h] at hg; cases hg
  have t1 : (({data := #[101, 110, 100]} : ByteArray).toList == ({data := #[38, 38]} : ByteArray).toList) = false := by rw [ByteArray.toList_eq, ByteArray.toList_eq]; rfl
  have HGB := Lib.hid hg
  clear hg
  go_enter Tryz.func94, Tryz.ntmps94
  go_wp2_with fail
  generalize hW : World.alloc _ _ = W
  have hB : Below w.heap.size w W := by rw [← hW]; exact (Below.refl _ _).alloc (Nat.le_refl _) _
  have h0 : W.heap[w.heap.size]? = some (.cells condZero 96 (0, 0)) := by rw [← hW]; exact heap_new _ _
  have hgW : W.heap[g]? = some (.cells parName 141 (0, 0)) := (hB.block g hlt).trans HGB.out
  clear hW
  refine Calls.mono (part_name g W hgW) ?_
  rintro _ U ⟨rfl, hgr, hV⟩
  have lt1 : w.heap.size < W.heap.size := Nat.lt_of_not_le fun h => by rw [Array.getElem?_eq_none h] at h0; cases h0
  have lt2 : w.heap.size < U.heap.size := Nat.lt_of_lt_of_le lt1 hgr.size
  have hz : U.heap[w.heap.size]? = some (.cells condZero 96 (0, 0)) := by
    rw [hgr.block _ (by omega) (by simp; omega)]; exact h0
  have hG : w.grownBy U (some g) := World.grownBy.trans ⟨hB.os, hB.tape, hB.output, hB.size, fun k hk _ => hB.block k hk⟩ hgr
  have HZ := Lib.hid hz
  have HV := Lib.hid hV
  have HG := Lib.hid hG
  clear hz hV hG hgr h0 hgW hB HGB lt1
  simp only [condName, condCells]
  go_wp2_with fail
  generalize hT : World.alloc _ _ = T
  have hUT : Below U.heap.size U T := by rw [← hT]; exact (Below.refl _ _).alloc (Nat.le_refl _) _
  have hn : T.heap[U.heap.size]? = some (.cells condCells 96 (0, 0)) := by rw [← hT]; exact heap_new _ _
  have hzT : T.heap[w.heap.size]? = some (.cells condZero 96 (0, 0)) := (hUT.block _ lt2).trans HZ.out
  have hVT : T.heap[g]? = some (.cells parEnd 141 (0, 0)) := (hUT.block _ (by omega)).trans HV.out
  have hGT : w.grownBy T (some g) := HG.out.trans ⟨hUT.os, hUT.tape, hUT.output, hUT.size, fun k hk _ => hUT.block k hk⟩
  have lt3 : w.heap.size < T.heap.size := Nat.lt_of_lt_of_le lt2 hUT.size
  have p1 := cell_of hVT 1
  have p12 := cell_of hVT 12
  simp only [parEnd, List.getElem?_toArray, List.getElem?_cons_zero, List.getElem?_cons_succ] at p1 p12
  generalize U.heap.size = n at hn ⊢
  have HN := Lib.hid hn
  have HZT := Lib.hid hzT
  have HVT := Lib.hid hVT
  have HGT := Lib.hid hGT
  have LT3 := Lib.hid lt3
  clear hT hUT hn hzT hVT hGT lt2 lt3 HZ HV HG
  refine wp_loop_rounds 1 ?_
  rw [rounds_succ]
  go_wp2_with fail
  refine Calls.mono (joined_one _ n _ _ T HN.out) ?_
  rintro _ U ⟨rfl, hU⟩
  have lt4 := LT3.out
  have hz : U.heap[w.heap.size]? = some (.cells condZero 96 (0, 0)) := (hU.block _ lt4).trans HZT.out
  have hV : U.heap[g]? = some (.cells parEnd 141 (0, 0)) := (hU.block _ (by omega)).trans HVT.out
  have hG : w.grownBy U (some g) := HGT.out.trans ⟨hU.os, hU.tape, hU.output, hU.size, fun k hk _ => hU.block k hk⟩
  have z0 := fun i => cell_of hz i
  have e0 := z0 0
  have e1 := z0 1
  have e2 := z0 2
  have e3 := z0 3
  have e4 := z0 4
  have e5 := z0 5
  have e6 := z0 6
  have e7 := z0 7
  have e8 := z0 8
  have e9 := z0 9
  have e10 := z0 10
  simp only [condZero, List.getElem?_toArray, List.getElem?_cons_zero, List.getElem?_cons_succ] at e0 e1 e2 e3 e4 e5 e6 e7 e8 e9 e10
  have fz : ∀ i, U.frozen? ⟨w.heap.size, i, none⟩ = false := fun i => by simp [World.frozen?, hz]
  have HZ := Lib.hid hz
  have HV := Lib.hid hV
  have HG := Lib.hid hG
  clear z0 hz hV hG hU lt4 LT3 HN HZT HVT HGT p1 p12
  simp only [condName, condCells]
  go_wp2_with fail
  generalize hX : World.setCell _ _ _ = X
  have hu := put11 (.int .i64 1) (.string ⟨#[97]⟩) (.string ⟨#[61, 61]⟩) (.int .i64 3) (.int .i64 1) (.string ⟨#[]⟩) (.int .i64 0) (.int .i64 0) (.int .i64 0) (.int .i64 0) (.slice none 0 0) (Below.refl w.heap.size U) (Nat.le_refl _) HZ.out
  rw [hX] at hu
  obtain ⟨hBX, hx⟩ := hu
  have hVX : X.heap[g]? = some (.cells parEnd 141 (0, 0)) := (hBX.block g hlt).trans HV.out
  have hGX : w.grownBy X (some g) := ⟨hBX.os.trans HG.out.os, hBX.tape.trans HG.out.tape, hBX.output.trans HG.out.output, Nat.le_trans HG.out.size hBX.size, fun k hk hne => (hBX.block k hk).trans (HG.out.block k hk hne)⟩
  clear hX e0 e1 e2 e3 e4 e5 e6 e7 e8 e9 e10 fz HZ HV HG
  have e := fun i => cell_of hx i
  have HVX := Lib.hid hVX
  have HGX := Lib.hid hGX
  clear hx hVX hGX hBX
  refine bodyPost_ret (v := condName) ?_ rfl ⟨rfl, HGX.out, HVX.out⟩
  simp [results, Tryz.results94, go_sem, condName, condCells, e]

set_option maxRecDepth 100000 in
set_option maxHeartbeats 1000000 in
theorem cond_name (g : Nat) (w : World) (hg : w.heap[g]? = some (.cells parName 141 (0, 0))) :
    Calls Tryz.prog 75 #[.pointer (some ⟨g, 0, none⟩)] w fun e w' => e = .returned condName ∧ w.grownBy w' (some g) ∧
      w'.heap[g]? = some (.cells parEnd 141 (0, 0)) := by
  have hlt : g < w.heap.size := Nat.lt_of_not_le fun h => by rw [Array.getElem?_eq_none h] at hg; cases hg
  have t1 : (({data := #[101, 110, 100]} : ByteArray).toList == ({data := #[124, 124]} : ByteArray).toList) = false := by rw [ByteArray.toList_eq, ByteArray.toList_eq]; rfl
  have HGB := Lib.hid hg
  clear hg
  go_enter Tryz.func75, Tryz.ntmps75
  go_wp2_with fail
  generalize hW : World.alloc _ _ = W
  have hB : Below w.heap.size w W := by rw [← hW]; exact (Below.refl _ _).alloc (Nat.le_refl _) _
  have h0 : W.heap[w.heap.size]? = some (.cells condZero 96 (0, 0)) := by rw [← hW]; exact heap_new _ _
  have hgW : W.heap[g]? = some (.cells parName 141 (0, 0)) := (hB.block g hlt).trans HGB.out
  clear hW
  refine Calls.mono (and_name g W hgW) ?_
  rintro _ U ⟨rfl, hgr, hV⟩
  have lt1 : w.heap.size < W.heap.size := Nat.lt_of_not_le fun h => by rw [Array.getElem?_eq_none h] at h0; cases h0
  have lt2 : w.heap.size < U.heap.size := Nat.lt_of_lt_of_le lt1 hgr.size
  have hz : U.heap[w.heap.size]? = some (.cells condZero 96 (0, 0)) := by
    rw [hgr.block _ (by omega) (by simp; omega)]; exact h0
  have hG : w.grownBy U (some g) := World.grownBy.trans ⟨hB.os, hB.tape, hB.output, hB.size, fun k hk _ => hB.block k hk⟩ hgr
  have HZ := Lib.hid hz
  have HV := Lib.hid hV
  have HG := Lib.hid hG
  clear hz hV hG hgr h0 hgW hB HGB lt1
  simp only [condName, condCells]
  go_wp2_with fail
  generalize hT : World.alloc _ _ = T
  have hUT : Below U.heap.size U T := by rw [← hT]; exact (Below.refl _ _).alloc (Nat.le_refl _) _
  have hn : T.heap[U.heap.size]? = some (.cells condCells 96 (0, 0)) := by rw [← hT]; exact heap_new _ _
  have hzT : T.heap[w.heap.size]? = some (.cells condZero 96 (0, 0)) := (hUT.block _ lt2).trans HZ.out
  have hVT : T.heap[g]? = some (.cells parEnd 141 (0, 0)) := (hUT.block _ (by omega)).trans HV.out
  have hGT : w.grownBy T (some g) := HG.out.trans ⟨hUT.os, hUT.tape, hUT.output, hUT.size, fun k hk _ => hUT.block k hk⟩
  have lt3 : w.heap.size < T.heap.size := Nat.lt_of_lt_of_le lt2 hUT.size
  have p1 := cell_of hVT 1
  have p12 := cell_of hVT 12
  simp only [parEnd, List.getElem?_toArray, List.getElem?_cons_zero, List.getElem?_cons_succ] at p1 p12
  generalize U.heap.size = n at hn ⊢
  have HN := Lib.hid hn
  have HZT := Lib.hid hzT
  have HVT := Lib.hid hVT
  have HGT := Lib.hid hGT
  have LT3 := Lib.hid lt3
  clear hT hUT hn hzT hVT hGT lt2 lt3 HZ HV HG
  refine wp_loop_rounds 1 ?_
  rw [rounds_succ]
  go_wp2_with fail
  refine Calls.mono (joined_one _ n _ _ T HN.out) ?_
  rintro _ U ⟨rfl, hU⟩
  have lt4 := LT3.out
  have hz : U.heap[w.heap.size]? = some (.cells condZero 96 (0, 0)) := (hU.block _ lt4).trans HZT.out
  have hV : U.heap[g]? = some (.cells parEnd 141 (0, 0)) := (hU.block _ (by omega)).trans HVT.out
  have hG : w.grownBy U (some g) := HGT.out.trans ⟨hU.os, hU.tape, hU.output, hU.size, fun k hk _ => hU.block k hk⟩
  have z0 := fun i => cell_of hz i
  have e0 := z0 0
  have e1 := z0 1
  have e2 := z0 2
  have e3 := z0 3
  have e4 := z0 4
  have e5 := z0 5
  have e6 := z0 6
  have e7 := z0 7
  have e8 := z0 8
  have e9 := z0 9
  have e10 := z0 10
  simp only [condZero, List.getElem?_toArray, List.getElem?_cons_zero, List.getElem?_cons_succ] at e0 e1 e2 e3 e4 e5 e6 e7 e8 e9 e10
  have fz : ∀ i, U.frozen? ⟨w.heap.size, i, none⟩ = false := fun i => by simp [World.frozen?, hz]
  have HZ := Lib.hid hz
  have HV := Lib.hid hV
  have HG := Lib.hid hG
  clear z0 hz hV hG hU lt4 LT3 HN HZT HVT HGT p1 p12
  simp only [condName, condCells]
  go_wp2_with fail
  generalize hX : World.setCell _ _ _ = X
  have hu := put11 (.int .i64 1) (.string ⟨#[97]⟩) (.string ⟨#[61, 61]⟩) (.int .i64 3) (.int .i64 1) (.string ⟨#[]⟩) (.int .i64 0) (.int .i64 0) (.int .i64 0) (.int .i64 0) (.slice none 0 0) (Below.refl w.heap.size U) (Nat.le_refl _) HZ.out
  rw [hX] at hu
  obtain ⟨hBX, hx⟩ := hu
  have hVX : X.heap[g]? = some (.cells parEnd 141 (0, 0)) := (hBX.block g hlt).trans HV.out
  have hGX : w.grownBy X (some g) := ⟨hBX.os.trans HG.out.os, hBX.tape.trans HG.out.tape, hBX.output.trans HG.out.output, Nat.le_trans HG.out.size hBX.size, fun k hk hne => (hBX.block k hk).trans (HG.out.block k hk hne)⟩
  clear hX e0 e1 e2 e3 e4 e5 e6 e7 e8 e9 e10 fz HZ HV HG
  have e := fun i => cell_of hx i
  have HVX := Lib.hid hVX
  have HGX := Lib.hid hGX
  clear hx hVX hGX hBX
  refine bodyPost_ret (v := condName) ?_ rfl ⟨rfl, HGX.out, HVX.out⟩
  simp [results, Tryz.results75, go_sem, condName, condCells, e]
end Go.Proofs.YtkbbmlkgaooaiaaGreatDoor
