/- parser.next at the parser of "a": its first and its second call. -/
import Derived.Test.YtphjgjcbolmdiaaGreatDoorTokn
namespace Go.Proofs.YtphjgjcbolmdiaaGreatDoor
open Go.RowKit Go.Hw

theorem putTok {b : Nat} {w V : World} {t : TypeId} {l} {z0 z1 z2 z3 z4 z5 z6 z7 z8 z9 z10 z11 z12 z13 : Value} (v0 v1 v2 v3 v4 v5 v6 v7 v8 v9 v10 : Value) (hb : w.grownBy V (some b))
    (hz : V.heap[b]? = some (.cells #[z0, z1, z2, z3, z4, z5, z6, z7, z8, z9, z10, z11, z12, z13] t l)) :
    w.grownBy (((((((((((V.setCell ⟨b, 1, none⟩ v0).setCell ⟨b, 2, none⟩ v1).setCell ⟨b, 3, none⟩ v2).setCell ⟨b, 4, none⟩ v3).setCell ⟨b, 5, none⟩ v4).setCell ⟨b, 6, none⟩ v5).setCell ⟨b, 7, none⟩ v6).setCell ⟨b, 8, none⟩ v7).setCell ⟨b, 9, none⟩ v8).setCell ⟨b, 10, none⟩ v9).setCell ⟨b, 11, none⟩ v10) (some b) ∧
    (((((((((((V.setCell ⟨b, 1, none⟩ v0).setCell ⟨b, 2, none⟩ v1).setCell ⟨b, 3, none⟩ v2).setCell ⟨b, 4, none⟩ v3).setCell ⟨b, 5, none⟩ v4).setCell ⟨b, 6, none⟩ v5).setCell ⟨b, 7, none⟩ v6).setCell ⟨b, 8, none⟩ v7).setCell ⟨b, 9, none⟩ v8).setCell ⟨b, 10, none⟩ v9).setCell ⟨b, 11, none⟩ v10).heap[b]? = some (.cells #[z0, v0, v1, v2, v3, v4, v5, v6, v7, v8, v9, v10, z12, z13] t l) := by
  constructor
  · exact grown_set (grown_set (grown_set (grown_set (grown_set (grown_set (grown_set (grown_set (grown_set (grown_set (grown_set (hb) 1 v0) 2 v1) 3 v2) 4 v3) 5 v4) 6 v5) 7 v6) 8 v7) 9 v8) 10 v9) 11 v10
  · have h := heap_set (heap_set (heap_set (heap_set (heap_set (heap_set (heap_set (heap_set (heap_set (heap_set (heap_set (hz) 1 v0) 2 v1) 3 v2) 4 v3) 5 v4) 6 v5) 7 v6) 8 v7) 9 v8) 10 v9) 11 v10
    simpa using h

def parZero : Array Value := #[.string ⟨#[97]⟩, .string ⟨#[]⟩, .int .i64 0, .int .i64 0, .string ⟨#[]⟩, .int .i64 0, .int .i64 0, .string ⟨#[]⟩, .int .i64 0, .int .i64 0, .int .i64 0, .int .i64 0, .bool false, .int .i64 0]
def parName : Array Value := #[.string ⟨#[97]⟩, .string ⟨#[110, 97, 109, 101]⟩, .int .i64 0, .int .i64 1, .string ⟨#[97]⟩, .int .i64 0, .int .i64 0, .string ⟨#[]⟩, .int .i64 0, .int .i64 0, .int .i64 0, .int .i64 0, .bool false, .int .i64 0]
def parEnd : Array Value := #[.string ⟨#[97]⟩, .string ⟨#[101, 110, 100]⟩, .int .i64 1, .int .i64 0, .string ⟨#[]⟩, .int .i64 0, .int .i64 0, .string ⟨#[]⟩, .int .i64 0, .int .i64 0, .int .i64 0, .int .i64 0, .bool false, .int .i64 0]

set_option maxRecDepth 100000 in
set_option maxHeartbeats 1000000 in
theorem next_first (g : Nat) (w : World) (hg : w.heap[g]? = some (.cells parZero 119 (0, 0))) :
    Calls Tryz.prog 53 #[.pointer (some ⟨g, 0, none⟩)] w fun e w' => e = .returned (.tuple #[]) ∧ w.grownBy w' (some g) ∧
      w'.heap[g]? = some (.cells parName 119 (0, 0)) := by
  have b0 : ((⟨#[97]⟩ : ByteArray)[0]).toNat = 97 := rfl
  have c := fun i => cell_of hg i
  have c0 := c 0
  have c3 := c 3
  simp only [parZero, List.getElem?_toArray, List.getElem?_cons_zero, List.getElem?_cons_succ] at c0 c3
  have HGB := Lib.hid hg
  clear c hg
  go_enter Tryz.func53, Tryz.ntmps53
  go_wp2_with fail
  refine wp_loop_rounds 1 ?_
  rw [rounds_succ]
  go_wp2_with fail
  refine Calls.mono (token_name w) ?_
  rintro _ V ⟨rfl, hB⟩
  have hg := HGB.out
  have hlt : g < w.heap.size := Nat.lt_of_not_le fun h => by rw [Array.getElem?_eq_none h] at hg; cases hg
  have hV : V.heap[g]? = some (.cells parZero 119 (0, 0)) := (hB.block g hlt).trans hg
  have hgr : w.grownBy V (some g) := ⟨hB.os, hB.tape, hB.output, hB.size, fun k hk _ => hB.block k hk⟩
  have d := fun i => cell_of hV i
  have d1 := d 1
  have d2 := d 2
  have d3 := d 3
  have d4 := d 4
  have d5 := d 5
  have d6 := d 6
  have d7 := d 7
  have d8 := d 8
  have d9 := d 9
  have d10 := d 10
  have d11 := d 11
  simp only [parZero, List.getElem?_toArray, List.getElem?_cons_zero, List.getElem?_cons_succ] at d1 d2 d3 d4 d5 d6 d7 d8 d9 d10 d11
  have f : ∀ i, V.frozen? ⟨g, i, none⟩ = false := fun i => by simp [World.frozen?, hV]
  have HP := Lib.hid (putTok (.string ⟨#[110, 97, 109, 101]⟩) (.int .i64 0) (.int .i64 1) (.string ⟨#[97]⟩) (.int .i64 0) (.int .i64 0) (.string ⟨#[]⟩) (.int .i64 0) (.int .i64 0) (.int .i64 0) (.int .i64 0) hgr hV)
  clear d hV hgr hB hg HGB c0 c3
  simp only [tokName]
  go_wp2_with fail
  exact bodyPost_end (v := .tuple #[]) (by simp [results, Tryz.results53, go_sem]) rfl ⟨rfl, HP.out⟩

set_option maxRecDepth 100000 in
set_option maxHeartbeats 1000000 in
theorem next_second (g : Nat) (w : World) (hg : w.heap[g]? = some (.cells parName 119 (0, 0))) :
    Calls Tryz.prog 53 #[.pointer (some ⟨g, 0, none⟩)] w fun e w' => e = .returned (.tuple #[]) ∧ w.grownBy w' (some g) ∧
      w'.heap[g]? = some (.cells parEnd 119 (0, 0)) := by
  have b0 : ((⟨#[97]⟩ : ByteArray)[0]).toNat = 97 := rfl
  have c := fun i => cell_of hg i
  have c0 := c 0
  have c3 := c 3
  simp only [parName, List.getElem?_toArray, List.getElem?_cons_zero, List.getElem?_cons_succ] at c0 c3
  have HGB := Lib.hid hg
  clear c hg
  go_enter Tryz.func53, Tryz.ntmps53
  go_wp2_with fail
  refine wp_loop_rounds 1 ?_
  rw [rounds_succ]
  go_wp2_with fail
  refine Calls.mono (token_end w) ?_
  rintro _ V ⟨rfl, hB⟩
  have hg := HGB.out
  have hlt : g < w.heap.size := Nat.lt_of_not_le fun h => by rw [Array.getElem?_eq_none h] at hg; cases hg
  have hV : V.heap[g]? = some (.cells parName 119 (0, 0)) := (hB.block g hlt).trans hg
  have hgr : w.grownBy V (some g) := ⟨hB.os, hB.tape, hB.output, hB.size, fun k hk _ => hB.block k hk⟩
  have d := fun i => cell_of hV i
  have d1 := d 1
  have d2 := d 2
  have d3 := d 3
  have d4 := d 4
  have d5 := d 5
  have d6 := d 6
  have d7 := d 7
  have d8 := d 8
  have d9 := d 9
  have d10 := d 10
  have d11 := d 11
  simp only [parName, List.getElem?_toArray, List.getElem?_cons_zero, List.getElem?_cons_succ] at d1 d2 d3 d4 d5 d6 d7 d8 d9 d10 d11
  have f : ∀ i, V.frozen? ⟨g, i, none⟩ = false := fun i => by simp [World.frozen?, hV]
  have HP := Lib.hid (putTok (.string ⟨#[101, 110, 100]⟩) (.int .i64 1) (.int .i64 0) (.string ⟨#[]⟩) (.int .i64 0) (.int .i64 0) (.string ⟨#[]⟩) (.int .i64 0) (.int .i64 0) (.int .i64 0) (.int .i64 0) hgr hV)
  clear d hV hgr hB hg HGB c0 c3
  simp only [tokEnd]
  go_wp2_with fail
  exact bodyPost_end (v := .tuple #[]) (by simp [results, Tryz.results53, go_sem]) rfl ⟨rfl, HP.out⟩
end Go.Proofs.YtphjgjcbolmdiaaGreatDoor
