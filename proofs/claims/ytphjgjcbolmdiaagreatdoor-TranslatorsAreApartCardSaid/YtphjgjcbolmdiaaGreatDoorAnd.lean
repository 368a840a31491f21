/- posture.joined at one condition, parser.and, parser.cond at the parser of "a". -/
import Derived.Test.YtphjgjcbolmdiaaGreatDoorPart
import Derived.Deep.Cut
namespace Go.Proofs.YtphjgjcbolmdiaaGreatDoor
open Go.RowKit Go.Hw

set_option maxRecDepth 100000 in
set_option maxHeartbeats 1000000 in
theorem joined_one (k : Int) (b : Nat) (t : TypeId) (l) (w : World) (hb : w.heap[b]? = some (.cells condCells t l)) :
    Calls Tryz.prog 81 #[.int .i64 k, .slice (some ⟨b, 0, none⟩) 1 1] w fun e w' => e = .returned condName ∧ Below w.heap.size w w' := by
  have hlt : b < w.heap.size := Nat.lt_of_not_le fun h => by rw [Array.getElem?_eq_none h] at hb; cases hb
  have HB := Lib.hid hb
  clear hb
  go_enter Tryz.func81, Tryz.ntmps81
  go_upto_region 2 with (fail)
  generalize hW : World.alloc _ _ = U
  have hB : Below w.heap.size w U := by rw [← hW]; exact (Below.refl _ _).alloc (Nat.le_refl _) _
  have hz : U.heap[w.heap.size]? = some (.cells condZero 81 (0, 0)) := by rw [← hW]; exact heap_new _ _
  have hbW : U.heap[b]? = some (.cells condCells t l) := (hB.block b hlt).trans HB.out
  clear hW
  have v0 := fun i => cell_of hbW i
  have z0 := fun i => cell_of hz i
  have a0 := v0 0
  have a1 := v0 1
  have a2 := v0 2
  have a3 := v0 3
  have a4 := v0 4
  have a5 := v0 5
  have a6 := v0 6
  have a7 := v0 7
  have a8 := v0 8
  have a9 := v0 9
  have a10 := v0 10
  have e0 := z0 0
  have e1 := z0 1
  have e2 := z0 2
  have e3 := z0 3
  have e4 := z0 4
  have e5 := z0 5
  have e6 := z0 6
  have e7 := z0 7
  have e8 := z0 8
  have e9 := z0 9
  have e10 := z0 10
  simp only [condZero, condCells, List.getElem?_toArray, List.getElem?_cons_zero, List.getElem?_cons_succ] at a0 a1 a2 a3 a4 a5 a6 a7 a8 a9 a10 e0 e1 e2 e3 e4 e5 e6 e7 e8 e9 e10
  have fz : ∀ i, U.frozen? ⟨w.heap.size, i, none⟩ = false := fun i => by simp [World.frozen?, hz]
  have HZ := Lib.hid hz
  have HU := Lib.hid hB
  clear v0 z0 hz hbW hB HB
  go_wp2_with fail
  generalize hX : World.setCell _ _ _ = X
  have hu := put11 (.int .i64 1) (.string ⟨#[97]⟩) (.string ⟨#[61, 61]⟩) (.int .i64 3) (.int .i64 1) (.string ⟨#[]⟩) (.int .i64 0) (.int .i64 0) (.int .i64 0) (.int .i64 0) (.slice none 0 0) HU.out (Nat.le_refl _) HZ.out
  rw [hX] at hu
  obtain ⟨hBX, hx⟩ := hu
  clear hX a0 a1 a2 a3 a4 a5 a6 a7 a8 a9 a10 e0 e1 e2 e3 e4 e5 e6 e7 e8 e9 e10 fz HZ HU
  have e := fun i => cell_of hx i
  have HBX := Lib.hid hBX
  clear hx hBX
  refine bodyPost_ret (v := condName) ?_ rfl ⟨rfl, HBX.out⟩
  simp [results, Tryz.results81, go_sem, condName, condCells, e]

set_option maxRecDepth 100000 in
set_option maxHeartbeats 1000000 in
theorem and_name (g : Nat) (w : World) (hg : w.heap[g]? = some (.cells parName 119 (0, 0))) :
    Calls Tryz.prog 80 #[.pointer (some ⟨g, 0, none⟩)] w fun e w' => e = .returned condName ∧ w.grownBy w' (some g) ∧
      w'.heap[g]? = some (.cells parEnd 119 (0, 0)) := by
  have hlt : g < w.heap.size := Nat.lt_of_not_le fun h => by rw [Array.getElem?_eq_none h] at hg; cases hg
  have t1 : (({data := #[101, 110, 100]} : ByteArray).toList == ({data := #[38, 38]} : ByteArray).toList) = false := by rw [ByteArray.toList_eq, ByteArray.toList_eq]; rfl
  have HGB := Lib.hid hg
  clear hg
  go_enter Tryz.func80, Tryz.ntmps80
  go_wp2_with fail
  generalize hW : World.alloc _ _ = W
  have hB : Below w.heap.size w W := by rw [← hW]; exact (Below.refl _ _).alloc (Nat.le_refl _) _
  have h0 : W.heap[w.heap.size]? = some (.cells condZero 81 (0, 0)) := by rw [← hW]; exact heap_new _ _
  have hgW : W.heap[g]? = some (.cells parName 119 (0, 0)) := (hB.block g hlt).trans HGB.out
  clear hW
  refine Calls.mono (part_name g W hgW) ?_
  rintro _ U ⟨rfl, hgr, hV⟩
  have lt1 : w.heap.size < W.heap.size := Nat.lt_of_not_le fun h => by rw [Array.getElem?_eq_none h] at h0; cases h0
  have lt2 : w.heap.size < U.heap.size := Nat.lt_of_lt_of_le lt1 hgr.size
  have hz : U.heap[w.heap.size]? = some (.cells condZero 81 (0, 0)) := by
    rw [hgr.block _ (by omega) (by simp; omega)]; exact h0
  have hG : w.grownBy U (some g) := World.grownBy.trans ⟨hB.os, hB.tape, hB.output, hB.size, fun k hk _ => hB.block k hk⟩ hgr
  have HZ := Lib.hid hz
  have HV := Lib.hid hV
  have HG := Lib.hid hG
  clear hz hV hG hgr h0 hgW hB HGB lt1
  simp only [condName, condCells]
  go_wp2_with fail
  generalize hT : World.alloc _ _ = T
  have hUT : Below U.heap.size U T := by rw [← hT]; exact (Below.refl _ _).alloc (Nat.le_refl _) _
  have hn : T.heap[U.heap.size]? = some (.cells condCells 81 (0, 0)) := by rw [← hT]; exact heap_new _ _
  have hzT : T.heap[w.heap.size]? = some (.cells condZero 81 (0, 0)) := (hUT.block _ lt2).trans HZ.out
  have hVT : T.heap[g]? = some (.cells parEnd 119 (0, 0)) := (hUT.block _ (by omega)).trans HV.out
  have hGT : w.grownBy T (some g) := HG.out.trans ⟨hUT.os, hUT.tape, hUT.output, hUT.size, fun k hk _ => hUT.block k hk⟩
  have lt3 : w.heap.size < T.heap.size := Nat.lt_of_lt_of_le lt2 hUT.size
  have p1 := cell_of hVT 1
  have p12 := cell_of hVT 12
  simp only [parEnd, List.getElem?_toArray, List.getElem?_cons_zero, List.getElem?_cons_succ] at p1 p12
  generalize U.heap.size = n at hn ⊢
  have HN := Lib.hid hn
  have HZT := Lib.hid hzT
  have HVT := Lib.hid hVT
  have HGT := Lib.hid hGT
  have LT3 := Lib.hid lt3
  clear hT hUT hn hzT hVT hGT lt2 lt3 HZ HV HG
  refine wp_loop_rounds 1 ?_
  rw [rounds_succ]
  go_wp2_with fail
  refine Calls.mono (joined_one _ n _ _ T HN.out) ?_
  rintro _ U ⟨rfl, hU⟩
  have lt4 := LT3.out
  have hz : U.heap[w.heap.size]? = some (.cells condZero 81 (0, 0)) := (hU.block _ lt4).trans HZT.out
  have hV : U.heap[g]? = some (.cells parEnd 119 (0, 0)) := (hU.block _ (by omega)).trans HVT.out
  have hG : w.grownBy U (some g) := HGT.out.trans ⟨hU.os, hU.tape, hU.output, hU.size, fun k hk _ => hU.block k hk⟩
  have z0 := fun i => cell_of hz i
  have e0 := z0 0
  have e1 := z0 1
  have e2 := z0 2
  have e3 := z0 3
  have e4 := z0 4
  have e5 := z0 5
  have e6 := z0 6
  have e7 := z0 7
  have e8 := z0 8
  have e9 := z0 9
  have e10 := z0 10
  simp only [condZero, List.getElem?_toArray, List.getElem?_cons_zero, List.getElem?_cons_succ] at e0 e1 e2 e3 e4 e5 e6 e7 e8 e9 e10
  have fz : ∀ i, U.frozen? ⟨w.heap.size, i, none⟩ = false := fun i => by simp [World.frozen?, hz]
  have HZ := Lib.hid hz
  have HV := Lib.hid hV
  have HG := Lib.hid hG
  clear z0 hz hV hG hU lt4 LT3 HN HZT HVT HGT p1 p12
  simp only [condName, condCells]
  go_wp2_with fail
  generalize hX : World.setCell _ _ _ = X
  have hu := put11 (.int .i64 1) (.string ⟨#[97]⟩) (.string ⟨#[61, 61]⟩) (.int .i64 3) (.int .i64 1) (.string ⟨#[]⟩) (.int .i64 0) (.int .i64 0) (.int .i64 0) (.int .i64 0) (.slice none 0 0) (Below.refl w.heap.size U) (Nat.le_refl _) HZ.out
  rw [hX] at hu
  obtain ⟨hBX, hx⟩ := hu
  have hVX : X.heap[g]? = some (.cells parEnd 119 (0, 0)) := (hBX.block g hlt).trans HV.out
  have hGX : w.grownBy X (some g) := ⟨hBX.os.trans HG.out.os, hBX.tape.trans HG.out.tape, hBX.output.trans HG.out.output, Nat.le_trans HG.out.size hBX.size, fun k hk hne => (hBX.block k hk).trans (HG.out.block k hk hne)⟩
  clear hX e0 e1 e2 e3 e4 e5 e6 e7 e8 e9 e10 fz HZ HV HG
  have e := fun i => cell_of hx i
  have HVX := Lib.hid hVX
  have HGX := Lib.hid hGX
  clear hx hVX hGX hBX
  refine bodyPost_ret (v := condName) ?_ rfl ⟨rfl, HGX.out, HVX.out⟩
  simp [results, Tryz.results80, go_sem, condName, condCells, e]

set_option maxRecDepth 100000 in
set_option maxHeartbeats 1000000 in
theorem cond_name (g : Nat) (w : World) (hg : w.heap[g]? = some (.cells parName 119 (0, 0))) :
    Calls Tryz.prog 54 #[.pointer (some ⟨g, 0, none⟩)] w fun e w' => e = .returned condName ∧ w.grownBy w' (some g) ∧
      w'.heap[g]? = some (.cells parEnd 119 (0, 0)) := by
  have hlt : g < w.heap.size := Nat.lt_of_not_le fun h => by rw [Array.getElem?_eq_none h] at hg; cases hg
  have t1 : (({data := #[101, 110, 100]} : ByteArray).toList == ({data := #[124, 124]} : ByteArray).toList) = false := by rw [ByteArray.toList_eq, ByteArray.toList_eq]; rfl
  have HGB := Lib.hid hg
  clear hg
  go_enter Tryz.func54, Tryz.ntmps54
  go_wp2_with fail
  generalize hW : World.alloc _ _ = W
  have hB : Below w.heap.size w W := by rw [← hW]; exact (Below.refl _ _).alloc (Nat.le_refl _) _
  have h0 : W.heap[w.heap.size]? = some (.cells condZero 81 (0, 0)) := by rw [← hW]; exact heap_new _ _
  have hgW : W.heap[g]? = some (.cells parName 119 (0, 0)) := (hB.block g hlt).trans HGB.out
  clear hW
  refine Calls.mono (and_name g W hgW) ?_
  rintro _ U ⟨rfl, hgr, hV⟩
  have lt1 : w.heap.size < W.heap.size := Nat.lt_of_not_le fun h => by rw [Array.getElem?_eq_none h] at h0; cases h0
  have lt2 : w.heap.size < U.heap.size := Nat.lt_of_lt_of_le lt1 hgr.size
  have hz : U.heap[w.heap.size]? = some (.cells condZero 81 (0, 0)) := by
    rw [hgr.block _ (by omega) (by simp; omega)]; exact h0
  have hG : w.grownBy U (some g) := World.grownBy.trans ⟨hB.os, hB.tape, hB.output, hB.size, fun k hk _ => hB.block k hk⟩ hgr
  have HZ := Lib.hid hz
  have HV := Lib.hid hV
  have HG := Lib.hid hG
  clear hz hV hG hgr h0 hgW hB HGB lt1
  simp only [condName, condCells]
  go_wp2_with fail
  generalize hT : World.alloc _ _ = T
  have hUT : Below U.heap.size U T := by rw [← hT]; exact (Below.refl _ _).alloc (Nat.le_refl _) _
  have hn : T.heap[U.heap.size]? = some (.cells condCells 81 (0, 0)) := by rw [← hT]; exact heap_new _ _
  have hzT : T.heap[w.heap.size]? = some (.cells condZero 81 (0, 0)) := (hUT.block _ lt2).trans HZ.out
  have hVT : T.heap[g]? = some (.cells parEnd 119 (0, 0)) := (hUT.block _ (by omega)).trans HV.out
  have hGT : w.grownBy T (some g) := HG.out.trans ⟨hUT.os, hUT.tape, hUT.output, hUT.size, fun k hk _ => hUT.block k hk⟩
  have lt3 : w.heap.size < T.heap.size := Nat.lt_of_lt_of_le lt2 hUT.size
  have p1 := cell_of hVT 1
  have p12 := cell_of hVT 12
  simp only [parEnd, List.getElem?_toArray, List.getElem?_cons_zero, List.getElem?_cons_succ] at p1 p12
  generalize U.heap.size = n at hn ⊢
  have HN := Lib.hid hn
  have HZT := Lib.hid hzT
  have HVT := Lib.hid hVT
  have HGT := Lib.hid hGT
  have LT3 := Lib.hid lt3
  clear hT hUT hn hzT hVT hGT lt2 lt3 HZ HV HG
  refine wp_loop_rounds 1 ?_
  rw [rounds_succ]
  go_wp2_with fail
  refine Calls.mono (joined_one _ n _ _ T HN.out) ?_
  rintro _ U ⟨rfl, hU⟩
  have lt4 := LT3.out
  have hz : U.heap[w.heap.size]? = some (.cells condZero 81 (0, 0)) := (hU.block _ lt4).trans HZT.out
  have hV : U.heap[g]? = some (.cells parEnd 119 (0, 0)) := (hU.block _ (by omega)).trans HVT.out
  have hG : w.grownBy U (some g) := HGT.out.trans ⟨hU.os, hU.tape, hU.output, hU.size, fun k hk _ => hU.block k hk⟩
  have z0 := fun i => cell_of hz i
  have e0 := z0 0
  have e1 := z0 1
  have e2 := z0 2
  have e3 := z0 3
  have e4 := z0 4
  have e5 := z0 5
  have e6 := z0 6
  have e7 := z0 7
  have e8 := z0 8
  have e9 := z0 9
  have e10 := z0 10
  simp only [condZero, List.getElem?_toArray, List.getElem?_cons_zero, List.getElem?_cons_succ] at e0 e1 e2 e3 e4 e5 e6 e7 e8 e9 e10
  have fz : ∀ i, U.frozen? ⟨w.heap.size, i, none⟩ = false := fun i => by simp [World.frozen?, hz]
  have HZ := Lib.hid hz
  have HV := Lib.hid hV
  have HG := Lib.hid hG
  clear z0 hz hV hG hU lt4 LT3 HN HZT HVT HGT p1 p12
  simp only [condName, condCells]
  go_wp2_with fail
  generalize hX : World.setCell _ _ _ = X
  have hu := put11 (.int .i64 1) (.string ⟨#[97]⟩) (.string ⟨#[61, 61]⟩) (.int .i64 3) (.int .i64 1) (.string ⟨#[]⟩) (.int .i64 0) (.int .i64 0) (.int .i64 0) (.int .i64 0) (.slice none 0 0) (Below.refl w.heap.size U) (Nat.le_refl _) HZ.out
  rw [hX] at hu
  obtain ⟨hBX, hx⟩ := hu
  have hVX : X.heap[g]? = some (.cells parEnd 119 (0, 0)) := (hBX.block g hlt).trans HV.out
  have hGX : w.grownBy X (some g) := ⟨hBX.os.trans HG.out.os, hBX.tape.trans HG.out.tape, hBX.output.trans HG.out.output, Nat.le_trans HG.out.size hBX.size, fun k hk hne => (hBX.block k hk).trans (HG.out.block k hk hne)⟩
  clear hX e0 e1 e2 e3 e4 e5 e6 e7 e8 e9 e10 fz HZ HV HG
  have e := fun i => cell_of hx i
  have HVX := Lib.hid hVX
  have HGX := Lib.hid hGX
  clear hx hVX hGX hBX
  refine bodyPost_ret (v := condName) ?_ rfl ⟨rfl, HGX.out, HVX.out⟩
  simp [results, Tryz.results54, go_sem, condName, condCells, e]
end Go.Proofs.YtphjgjcbolmdiaaGreatDoor
