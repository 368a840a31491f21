/- netmap.CheckPatch where nothing but some keys goes; slices.SortFunc of no peers. netmap.Join of two patches: by the first a key goes, the second is empty. -/
import Derived.Test.YtajifionclpphaaGreatDoorRyE
import Derived.Test.YtajifionclpphaaGreatDoorPick
import Derived.Sort.OwnSorted
import Derived.Lib.OwnBridge
import Derived.OwnWalk
namespace Go.Proofs.YtajifionclpphaaGreatDoor
open Go.RowKit Go.Hw Go.Shelf

set_option maxRecDepth 100000 in
theorem eqAddr_nil (w : World) : Calls Tryz.prog 211 #[.slice none 0 0, .slice none 0 0] w fun e w' => e = .returned (.bool true) ∧ w = w' := by
  go_enter Tryz.func211, Tryz.ntmps211
  go_wp2_with fail
  refine wp_loop_rounds 1 ?_
  rw [rounds_succ]
  go_wp2_with fail
  go_ret
  exact ⟨rfl, rfl⟩
set_option maxRecDepth 100000 in
theorem eqPrefix_nil (w : World) : Calls Tryz.prog 17 #[.slice none 0 0, .slice none 0 0] w fun e w' => e = .returned (.bool true) ∧ w = w' := by
  go_enter Tryz.func17, Tryz.ntmps17
  go_wp2_with fail
  refine wp_loop_rounds 1 ?_
  rw [rounds_succ]
  go_wp2_with fail
  go_ret
  exact ⟨rfl, rfl⟩
set_option maxRecDepth 100000 in
theorem peersFault_nil (s : ByteArray) (w : World) : Calls Tryz.prog 158 #[.slice none 0 0, .string s] w fun e w' => e = .returned (.int .i64 0) ∧ w = w' := by
  go_enter Tryz.func158, Tryz.ntmps158
  go_wp2_with fail
  refine wp_loop_rounds 1 ?_
  rw [rounds_succ]
  go_wp2_with fail
  go_ret
  exact ⟨rfl, rfl⟩
set_option maxRecDepth 100000 in
theorem idxPeer_nil (f : Value) (w : World) : Calls Tryz.prog 208 #[.slice none 0 0, f] w fun e w' => e = .returned (.int .i64 (-1)) ∧ w = w' := by
  go_enter Tryz.func208, Tryz.ntmps208
  go_wp2_with fail
  refine wp_loop_rounds 1 ?_
  rw [rounds_succ]
  go_wp2_with fail
  go_ret
  exact ⟨rfl, rfl⟩
set_option maxRecDepth 100000 in
theorem anyPeer_nil (f : Value) (w : World) : Calls Tryz.prog 159 #[.slice none 0 0, f] w fun e w' => e = .returned (.bool false) ∧ w = w' := by
  go_enter Tryz.func159, Tryz.ntmps159
  go_wp2_with fail
  refine (idxPeer_nil f w).mono ?_
  rintro e w1 ⟨rfl, rfl⟩
  go_wp2_with fail
  go_ret
  exact ⟨rfl, rfl⟩
set_option maxRecDepth 100000 in
theorem len_zero (w : World) : Calls Tryz.prog 168 #[.int .u64 0] w fun e w' => e = .returned (.int .i64 0) ∧ w = w' := by
  have hb := Tryz.bits_Len64 0 w (by omega) (by omega)
  have hz : ((Lib.bitLen (Int.toNat 0) : Nat) : Int) = 0 := by kernel_rfl
  rw [hz] at hb
  clear hz
  go_enter Tryz.func168, Tryz.ntmps168
  go_wp2_with fail
  refine hb.mono ?_
  rintro e w1 ⟨rfl, rfl⟩
  go_wp2_with fail
  go_ret
  exact ⟨rfl, rfl⟩
set_option maxRecDepth 100000 in
theorem insPeer_nil (f : Value) (w : World) : Calls Tryz.prog 226 #[.slice none 0 0, .int .i64 0, .int .i64 0, f] w fun e w' => e = .returned (.tuple #[]) ∧ w = w' := by
  go_enter Tryz.func226, Tryz.ntmps226
  go_wp2_with fail
  refine wp_loop_rounds 1 ?_
  rw [rounds_succ]
  go_wp2_with fail
  go_end0
  exact ⟨rfl, rfl⟩
set_option maxRecDepth 100000 in
theorem pdqPeer_nil (f : Value) (x : Int) (w : World) : Calls Tryz.prog 169 #[.slice none 0 0, .int .i64 0, .int .i64 0, .int .i64 x, f] w fun e w' => e = .returned (.tuple #[]) ∧ w = w' := by
  go_enter Tryz.func169, Tryz.ntmps169
  go_wp2_with fail
  refine wp_loop_rounds 1 ?_
  rw [rounds_succ]
  go_wp2_with fail
  refine (insPeer_nil f w).mono ?_
  rintro e w1 ⟨rfl, rfl⟩
  go_wp2_with fail
  refine bodyPost_ret (v := .tuple #[]) (by simp [results, Tryz.results169, go_sem]) rfl ⟨rfl, rfl⟩
set_option maxRecDepth 100000 in
theorem sortPeer_nil (f : Value) (w : World) : Calls Tryz.prog 99 #[.slice none 0 0, f] w fun e w' => e = .returned (.tuple #[]) ∧ w = w' := by
  go_enter Tryz.func99, Tryz.ntmps99
  go_wp2_with fail
  refine (len_zero w).mono ?_
  rintro e w1 ⟨rfl, rfl⟩
  go_wp2_with fail
  refine (pdqPeer_nil f _ w).mono ?_
  rintro e w1 ⟨rfl, rfl⟩
  go_wp2_with fail
  go_end0
  exact ⟨rfl, rfl⟩

/-! ### nodes -/
set_option maxRecDepth 100000 in
set_option maxHeartbeats 1000000 in
theorem sameNode_zero (w : World) : Calls Tryz.prog 163 #[.agg #[.string ⟨#[]⟩, .string ⟨#[]⟩, .string ⟨#[]⟩, .slice none 0 0, .slice none 0 0, .slice none 0 0], .agg #[.string ⟨#[]⟩, .string ⟨#[]⟩, .string ⟨#[]⟩, .slice none 0 0, .slice none 0 0, .slice none 0 0]] w fun e w' => e = .returned (.bool true) ∧ Below w.heap.size w w' := by
  have h1 : CA ((w.alloc (.cells #[.string ⟨#[]⟩, .string ⟨#[]⟩, .string ⟨#[]⟩, .slice none 0 0, .slice none 0 0, .slice none 0 0] 103)).alloc (.cells #[.string ⟨#[]⟩, .string ⟨#[]⟩, .string ⟨#[]⟩, .slice none 0 0, .slice none 0 0, .slice none 0 0] 103)) w.heap.size [.string ⟨#[]⟩, .string ⟨#[]⟩, .string ⟨#[]⟩, .slice none 0 0, .slice none 0 0, .slice none 0 0] := (CA.made w _ _).alloc _
  have h2 : CA ((w.alloc (.cells #[.string ⟨#[]⟩, .string ⟨#[]⟩, .string ⟨#[]⟩, .slice none 0 0, .slice none 0 0, .slice none 0 0] 103)).alloc (.cells #[.string ⟨#[]⟩, .string ⟨#[]⟩, .string ⟨#[]⟩, .slice none 0 0, .slice none 0 0, .slice none 0 0] 103)) (w.heap.size + 1) [.string ⟨#[]⟩, .string ⟨#[]⟩, .string ⟨#[]⟩, .slice none 0 0, .slice none 0 0, .slice none 0 0] := by
    have := CA.made (w.alloc (.cells #[.string ⟨#[]⟩, .string ⟨#[]⟩, .string ⟨#[]⟩, .slice none 0 0, .slice none 0 0, .slice none 0 0] 103)) [.string ⟨#[]⟩, .string ⟨#[]⟩, .string ⟨#[]⟩, .slice none 0 0, .slice none 0 0, .slice none 0 0] 103
    rw [show (w.alloc (.cells #[.string ⟨#[]⟩, .string ⟨#[]⟩, .string ⟨#[]⟩, .slice none 0 0, .slice none 0 0, .slice none 0 0] 103)).heap.size = w.heap.size + 1 from by simp] at this
    exact this
  have HB := Lib.hid ((below_alloc1 w (.cells #[.string ⟨#[]⟩, .string ⟨#[]⟩, .string ⟨#[]⟩, .slice none 0 0, .slice none 0 0, .slice none 0 0] 103)).alloc (by simp) (.cells #[.string ⟨#[]⟩, .string ⟨#[]⟩, .string ⟨#[]⟩, .slice none 0 0, .slice none 0 0, .slice none 0 0] 103))
  have a0 := h1.2 0 _ rfl
  have b0 := h2.2 0 _ rfl
  have a1 := h1.2 1 _ rfl
  have b1 := h2.2 1 _ rfl
  have a2 := h1.2 2 _ rfl
  have b2 := h2.2 2 _ rfl
  have a3 := h1.2 3 _ rfl
  have b3 := h2.2 3 _ rfl
  have a4 := h1.2 4 _ rfl
  have b4 := h2.2 4 _ rfl
  have a5 := h1.2 5 _ rfl
  have b5 := h2.2 5 _ rfl
  clear h1 h2
  go_enter Tryz.func163, Tryz.ntmps163
  go_wp2_with fail
  refine (Tryz.slices_Equal_string_empty none none 0 0 0 _ (by omega)).mono ?_
  rintro e w1 ⟨rfl, rfl⟩
  rw [show decide ((0 : Nat) = 0) = true from rfl]
  go_wp2_with fail
  refine (eqAddr_nil _).mono ?_
  rintro e w1 ⟨rfl, rfl⟩
  go_wp2_with fail
  refine (eqPrefix_nil _).mono ?_
  rintro e w1 ⟨rfl, rfl⟩
  go_wp2_with fail
  go_ret
  exact ⟨rfl, HB.out⟩

/-! ### a patch by which some keys go -/
set_option maxRecDepth 100000 in
set_option maxHeartbeats 2000000 in
theorem checkPatch_gone (A : Option Addr) (n cap : Nat) (w : World) (hn : n ≤ 499) (hr : ∀ W, Below w.heap.size w W → Calls Tryz.prog 157 #[.slice A n cap] W fun e w' => e = .returned (.int .i64 0) ∧ Below W.heap.size W w') :
    Calls Tryz.prog 95 #[.agg #[.slice A n cap, .slice none 0 0, .bool false, .bool false, .bool false, .string ⟨#[]⟩, .string ⟨#[]⟩, .string ⟨#[]⟩, .slice none 0 0, .slice none 0 0, .slice none 0 0, .slice none 0 0, .string ⟨#[]⟩]] w fun e w' => e = .returned (.int .i64 0) ∧ Below w.heap.size w w' := by
  have HC := Lib.hid (show CA (w.alloc (.cells #[.slice A n cap, .slice none 0 0, .bool false, .bool false, .bool false, .string ⟨#[]⟩, .string ⟨#[]⟩, .string ⟨#[]⟩, .slice none 0 0, .slice none 0 0, .slice none 0 0, .slice none 0 0, .string ⟨#[]⟩] 106)) w.heap.size [.slice A n cap, .slice none 0 0, .bool false, .bool false, .bool false, .string ⟨#[]⟩, .string ⟨#[]⟩, .string ⟨#[]⟩, .slice none 0 0, .slice none 0 0, .slice none 0 0, .slice none 0 0, .string ⟨#[]⟩] from CA.made w _ _)
  have HB := Lib.hid (below_alloc1 w (.cells #[.slice A n cap, .slice none 0 0, .bool false, .bool false, .bool false, .string ⟨#[]⟩, .string ⟨#[]⟩, .string ⟨#[]⟩, .slice none 0 0, .slice none 0 0, .slice none 0 0, .slice none 0 0, .string ⟨#[]⟩] 106))
  have hr1 := hr _ HB.out
  have hd : decide ((499 : Int) < (n : Int)) = false := by simp; omega
  have a0 := HC.out.2 0 _ rfl
  have a1 := HC.out.2 1 _ rfl
  have a2 := HC.out.2 2 _ rfl
  have a3 := HC.out.2 3 _ rfl
  have a4 := HC.out.2 4 _ rfl
  have a5 := HC.out.2 5 _ rfl
  have a6 := HC.out.2 6 _ rfl
  have a7 := HC.out.2 7 _ rfl
  have a8 := HC.out.2 8 _ rfl
  have a9 := HC.out.2 9 _ rfl
  have a10 := HC.out.2 10 _ rfl
  have a11 := HC.out.2 11 _ rfl
  have a12 := HC.out.2 12 _ rfl
  clear hr
  go_enter Tryz.func95, Tryz.ntmps95
  go_wp2_with fail
  refine hr1.mono ?_
  rintro e w1 ⟨rfl, hb⟩
  have HC := Lib.hid (HC.out.below hb)
  have HB := Lib.hid (HB.out.trans (hb.mono HB.out.size))
  clear a0 a1 a2 a3 a4 a5 a6 a7 a8 a9 a10 a11 a12 hb
  have a0 := HC.out.2 0 _ rfl
  have a1 := HC.out.2 1 _ rfl
  have a2 := HC.out.2 2 _ rfl
  have a3 := HC.out.2 3 _ rfl
  have a4 := HC.out.2 4 _ rfl
  have a5 := HC.out.2 5 _ rfl
  have a6 := HC.out.2 6 _ rfl
  have a7 := HC.out.2 7 _ rfl
  have a8 := HC.out.2 8 _ rfl
  have a9 := HC.out.2 9 _ rfl
  have a10 := HC.out.2 10 _ rfl
  have a11 := HC.out.2 11 _ rfl
  have a12 := HC.out.2 12 _ rfl
  go_wp2_with fail
  refine (peersFault_nil ⟨#[]⟩ _).mono ?_
  rintro e w2 ⟨rfl, rfl⟩
  go_wp2_with fail
  refine (anyPeer_nil _ _).mono ?_
  rintro e w2 ⟨rfl, rfl⟩
  go_wp2_with fail
  refine (sameNode_zero _).mono ?_
  rintro e w2 ⟨rfl, hb⟩
  have HC := Lib.hid (HC.out.below hb)
  have HB := Lib.hid (HB.out.trans (hb.mono HB.out.size))
  clear a0 a1 a2 a3 a4 a5 a6 a7 a8 a9 a10 a11 a12 hb
  have a0 := HC.out.2 0 _ rfl
  have a1 := HC.out.2 1 _ rfl
  have a2 := HC.out.2 2 _ rfl
  have a3 := HC.out.2 3 _ rfl
  have a4 := HC.out.2 4 _ rfl
  have a5 := HC.out.2 5 _ rfl
  have a6 := HC.out.2 6 _ rfl
  have a7 := HC.out.2 7 _ rfl
  have a8 := HC.out.2 8 _ rfl
  have a9 := HC.out.2 9 _ rfl
  have a10 := HC.out.2 10 _ rfl
  have a11 := HC.out.2 11 _ rfl
  have a12 := HC.out.2 12 _ rfl
  go_wp2_with fail
  go_ret
  exact ⟨rfl, HB.out⟩

set_option maxRecDepth 100000 in
set_option maxHeartbeats 1000000 in
theorem rising_one (g cap : Nat) (w : World) (hc : w.cell? ⟨g, 0, none⟩ = some (.string ⟨#[97]⟩)) :
    Calls Tryz.prog 157 #[.slice (some ⟨g, 0, none⟩) 1 cap] w fun e w' => e = .returned (.int .i64 0) ∧ Below w.heap.size w w' := by
  have hk := isKey_any ⟨#[97]⟩ w (by decide)
  have hi : isKey ⟨#[97]⟩ = true := by kernel_rfl
  rw [hi] at hk
  clear hi
  go_enter Tryz.func157, Tryz.ntmps157
  go_wp2_with fail
  refine wp_loop_rounds 2 ?_
  rw [rounds_succ]
  go_wp2_with fail
  refine hk.mono ?_
  rintro e w1 ⟨rfl, rfl⟩
  go_wp2_with fail
  rw [rounds_succ]
  go_wp2_with fail
  go_ret
  exact ⟨rfl, Below.refl _ _⟩
end Go.Proofs.YtajifionclpphaaGreatDoor

namespace Go.Proofs.YtajifionclpphaaGreatDoor
open Go.RowKit Go.Hw Go.Shelf

theorem Tryz.zeroTold (w : World) : (zeroValue 4).run Tryz.prog w = .ok (.bool false) w := by kernel_rfl
theorem cellB {B : Nat} {w w' : World} (h : Below B w w') {g : Nat} (hg : g < B) (j : Nat) : w'.cell? ⟨g, j, none⟩ = w.cell? ⟨g, j, none⟩ := h.cell (p := ⟨g, j, none⟩) hg
theorem idx2_0 (a0 a1 a2 a3 a4 a5 a6 a7 a8 a9 a10 a11 a12 b0 b1 b2 b3 b4 b5 b6 b7 b8 b9 b10 b11 b12 : Value) (w : World) : (Instr.index 154 (.agg #[a0, a1, a2, a3, a4, a5, a6, a7, a8, a9, a10, a11, a12, b0, b1, b2, b3, b4, b5, b6, b7, b8, b9, b10, b11, b12]) (.int .i64 0)).run Tryz.prog w = .ok (.agg #[a0, a1, a2, a3, a4, a5, a6, a7, a8, a9, a10, a11, a12]) w := by kernel_rfl
theorem idx2_1 (a0 a1 a2 a3 a4 a5 a6 a7 a8 a9 a10 a11 a12 b0 b1 b2 b3 b4 b5 b6 b7 b8 b9 b10 b11 b12 : Value) (w : World) : (Instr.index 154 (.agg #[a0, a1, a2, a3, a4, a5, a6, a7, a8, a9, a10, a11, a12, b0, b1, b2, b3, b4, b5, b6, b7, b8, b9, b10, b11, b12]) (.int .i64 1)).run Tryz.prog w = .ok (.agg #[b0, b1, b2, b3, b4, b5, b6, b7, b8, b9, b10, b11, b12]) w := by kernel_rfl
theorem cell_lt {w : World} {g j : Nat} {v : Value} (h : w.cell? ⟨g, j, none⟩ = some v) : g < w.heap.size := by
  by_cases hlt : g < w.heap.size
  · exact hlt
  · have hn : w.heap[g]? = none := Array.getElem?_eq_none (by omega)
    simp [World.cell?, hn] at h
theorem CA.belowB {B : Nat} {w w' : World} {b : Nat} {vs : List Value} (h : CA w b vs) (hb : Below B w w') (hlt : b < B) : CA w' b vs := ⟨Nat.lt_of_lt_of_le h.1 hb.size, fun j u hu => (cellB hb hlt j).trans (h.2 j u hu)⟩
theorem c13 {W : World} {R : Nat} {a0 a1 a2 a3 a4 a5 a6 a7 a8 a9 a10 a11 a12 : Value} {T : TypeId} (h : W.heap[R]? = some (.cells #[a0, a1, a2, a3, a4, a5, a6, a7, a8, a9, a10, a11, a12] T (0, 0))) : W.cell? ⟨R, 0, none⟩ = some a0 ∧ W.cell? ⟨R, 1, none⟩ = some a1 ∧ W.cell? ⟨R, 2, none⟩ = some a2 ∧ W.cell? ⟨R, 3, none⟩ = some a3 ∧ W.cell? ⟨R, 4, none⟩ = some a4 ∧ W.cell? ⟨R, 5, none⟩ = some a5 ∧ W.cell? ⟨R, 6, none⟩ = some a6 ∧ W.cell? ⟨R, 7, none⟩ = some a7 ∧ W.cell? ⟨R, 8, none⟩ = some a8 ∧ W.cell? ⟨R, 9, none⟩ = some a9 ∧ W.cell? ⟨R, 10, none⟩ = some a10 ∧ W.cell? ⟨R, 11, none⟩ = some a11 ∧ W.cell? ⟨R, 12, none⟩ = some a12 := by
  refine ⟨?_, ?_, ?_, ?_, ?_, ?_, ?_, ?_, ?_, ?_, ?_, ?_, ?_⟩ <;> simp [World.cell?, h]
/-- One string in order. -/
theorem sort_oneS (base g cap : Nat) (w : World) (h : w.ownsRow base 9 1 (.slice (some ⟨g, 0, none⟩) 1 cap) 1 [.string ⟨#[97]⟩]) :
    Calls Tryz.prog 98 #[.slice (some ⟨g, 0, none⟩) 1 cap] w fun e w' => e = .returned (.tuple #[]) ∧ w'.ownsRow base 9 1 (.slice (some ⟨g, 0, none⟩) 1 cap) 1 [.string ⟨#[97]⟩] ∧ w.grownBy w' (some g) := by
  have h0 : w.ownsRow base 9 1 (.slice (some ⟨g, 0, none⟩) 1 cap) 1 ([[97]].map encStr) := h
  obtain ⟨g', cap', e0, hbg, hgl, hnc, hcm, _, hH⟩ := Go.Lib.holds_of_ownsRow h0 (by simp)
  injection e0 with e1 _ e3
  injection e1 with e1
  injection e1 with e1
  subst e1; subst e3
  refine (Tryz.slices_Sort_string g 0 cap [[97]] w hH hgl (by decide)).mono ?_
  rintro e w' ⟨rfl, n, os, rfl⟩
  rcases h.2 with ⟨h1, _⟩ | ⟨g', cap', cur, e0, hb, hg, hn, hm, hs, _⟩
  · cases h1
  · injection e0 with e1 _ e3
    injection e1 with e1
    injection e1 with e1
    subst e1; subst e3
    refine ⟨rfl, ?_, grownBy_sorted _⟩
    rw [List.mergeSort_singleton]
    exact ownsRow_sorted (ss := [[97]]) (ts := [[97]]) (w := w) (n := n) (os := os) rfl hb hg hn hm hs

set_option maxRecDepth 100000 in
set_option maxHeartbeats 4000000 in
theorem join_one (g gc : Nat) (w : World) (hg : g < w.heap.size) (hc : w.cell? ⟨g, 0, none⟩ = some (.string ⟨#[97]⟩)) :
    Calls Tryz.prog 47 #[.agg #[.slice (some ⟨g, 0, none⟩) 1 gc, .slice none 0 0, .bool false, .bool false, .bool false, .string ⟨#[]⟩, .string ⟨#[]⟩, .string ⟨#[]⟩, .slice none 0 0, .slice none 0 0, .slice none 0 0, .slice none 0 0, .string ⟨#[]⟩], .agg #[.slice none 0 0, .slice none 0 0, .bool false, .bool false, .bool false, .string ⟨#[]⟩, .string ⟨#[]⟩, .string ⟨#[]⟩, .slice none 0 0, .slice none 0 0, .slice none 0 0, .slice none 0 0, .string ⟨#[]⟩]] w fun e w' => ∃ b cap, e = .returned (.tuple #[.agg #[.slice (some ⟨b, 0, none⟩) 1 cap, .slice none 0 0, .bool false, .bool false, .bool false, .string ⟨#[]⟩, .string ⟨#[]⟩, .string ⟨#[]⟩, .slice none 0 0, .slice none 0 0, .slice none 0 0, .slice none 0 0, .string ⟨#[]⟩], .int .i64 0]) ∧ Below w.heap.size w w' := by
  obtain ⟨i0, hi, hz0, hz1, hz2⟩ := info_parts Tryz.infoStr
  have hz : ((w.alloc (.cells #[.slice (some ⟨g, 0, none⟩) 1 gc, .slice none 0 0, .bool false, .bool false, .bool false, .string ⟨#[]⟩, .string ⟨#[]⟩, .string ⟨#[]⟩, .slice none 0 0, .slice none 0 0, .slice none 0 0, .slice none 0 0, .string ⟨#[]⟩] 106)).alloc (.cells #[.slice none 0 0, .slice none 0 0, .bool false, .bool false, .bool false, .string ⟨#[]⟩, .string ⟨#[]⟩, .string ⟨#[]⟩, .slice none 0 0, .slice none 0 0, .slice none 0 0, .slice none 0 0, .string ⟨#[]⟩] 106)).heap.size = w.heap.size + 1 + 1 := by simp
  have hy : (w.alloc (.cells #[.slice (some ⟨g, 0, none⟩) 1 gc, .slice none 0 0, .bool false, .bool false, .bool false, .string ⟨#[]⟩, .string ⟨#[]⟩, .string ⟨#[]⟩, .slice none 0 0, .slice none 0 0, .slice none 0 0, .slice none 0 0, .string ⟨#[]⟩] 106)).heap.size = w.heap.size + 1 := by simp
  have hP : CA (((w.alloc (.cells #[.slice (some ⟨g, 0, none⟩) 1 gc, .slice none 0 0, .bool false, .bool false, .bool false, .string ⟨#[]⟩, .string ⟨#[]⟩, .string ⟨#[]⟩, .slice none 0 0, .slice none 0 0, .slice none 0 0, .slice none 0 0, .string ⟨#[]⟩] 106)).alloc (.cells #[.slice none 0 0, .slice none 0 0, .bool false, .bool false, .bool false, .string ⟨#[]⟩, .string ⟨#[]⟩, .string ⟨#[]⟩, .slice none 0 0, .slice none 0 0, .slice none 0 0, .slice none 0 0, .string ⟨#[]⟩] 106)).alloc (.cells #[.slice none 0 0, .slice none 0 0, .bool false, .bool false, .bool false, .string ⟨#[]⟩, .string ⟨#[]⟩, .string ⟨#[]⟩, .slice none 0 0, .slice none 0 0, .slice none 0 0, .slice none 0 0, .string ⟨#[]⟩] 106)) w.heap.size [.slice (some ⟨g, 0, none⟩) 1 gc, .slice none 0 0, .bool false, .bool false, .bool false, .string ⟨#[]⟩, .string ⟨#[]⟩, .string ⟨#[]⟩, .slice none 0 0, .slice none 0 0, .slice none 0 0, .slice none 0 0, .string ⟨#[]⟩] := ((CA.made w _ _).alloc _).alloc _
  have hQ : CA (((w.alloc (.cells #[.slice (some ⟨g, 0, none⟩) 1 gc, .slice none 0 0, .bool false, .bool false, .bool false, .string ⟨#[]⟩, .string ⟨#[]⟩, .string ⟨#[]⟩, .slice none 0 0, .slice none 0 0, .slice none 0 0, .slice none 0 0, .string ⟨#[]⟩] 106)).alloc (.cells #[.slice none 0 0, .slice none 0 0, .bool false, .bool false, .bool false, .string ⟨#[]⟩, .string ⟨#[]⟩, .string ⟨#[]⟩, .slice none 0 0, .slice none 0 0, .slice none 0 0, .slice none 0 0, .string ⟨#[]⟩] 106)).alloc (.cells #[.slice none 0 0, .slice none 0 0, .bool false, .bool false, .bool false, .string ⟨#[]⟩, .string ⟨#[]⟩, .string ⟨#[]⟩, .slice none 0 0, .slice none 0 0, .slice none 0 0, .slice none 0 0, .string ⟨#[]⟩] 106)) (w.heap.size + 1) [.slice none 0 0, .slice none 0 0, .bool false, .bool false, .bool false, .string ⟨#[]⟩, .string ⟨#[]⟩, .string ⟨#[]⟩, .slice none 0 0, .slice none 0 0, .slice none 0 0, .slice none 0 0, .string ⟨#[]⟩] := by
    have := (CA.made (w.alloc (.cells #[.slice (some ⟨g, 0, none⟩) 1 gc, .slice none 0 0, .bool false, .bool false, .bool false, .string ⟨#[]⟩, .string ⟨#[]⟩, .string ⟨#[]⟩, .slice none 0 0, .slice none 0 0, .slice none 0 0, .slice none 0 0, .string ⟨#[]⟩] 106)) [.slice none 0 0, .slice none 0 0, .bool false, .bool false, .bool false, .string ⟨#[]⟩, .string ⟨#[]⟩, .string ⟨#[]⟩, .slice none 0 0, .slice none 0 0, .slice none 0 0, .slice none 0 0, .string ⟨#[]⟩] 106).alloc (.cells #[.slice none 0 0, .slice none 0 0, .bool false, .bool false, .bool false, .string ⟨#[]⟩, .string ⟨#[]⟩, .string ⟨#[]⟩, .slice none 0 0, .slice none 0 0, .slice none 0 0, .slice none 0 0, .string ⟨#[]⟩] 106)
    rw [hy] at this
    exact this
  have hR := heap_alloc_new ((w.alloc (.cells #[.slice (some ⟨g, 0, none⟩) 1 gc, .slice none 0 0, .bool false, .bool false, .bool false, .string ⟨#[]⟩, .string ⟨#[]⟩, .string ⟨#[]⟩, .slice none 0 0, .slice none 0 0, .slice none 0 0, .slice none 0 0, .string ⟨#[]⟩] 106)).alloc (.cells #[.slice none 0 0, .slice none 0 0, .bool false, .bool false, .bool false, .string ⟨#[]⟩, .string ⟨#[]⟩, .string ⟨#[]⟩, .slice none 0 0, .slice none 0 0, .slice none 0 0, .slice none 0 0, .string ⟨#[]⟩] 106)) (.cells #[.slice none 0 0, .slice none 0 0, .bool false, .bool false, .bool false, .string ⟨#[]⟩, .string ⟨#[]⟩, .string ⟨#[]⟩, .slice none 0 0, .slice none 0 0, .slice none 0 0, .slice none 0 0, .string ⟨#[]⟩] 106)
  rw [hz] at hR
  have hb := ((below_alloc1 w (.cells #[.slice (some ⟨g, 0, none⟩) 1 gc, .slice none 0 0, .bool false, .bool false, .bool false, .string ⟨#[]⟩, .string ⟨#[]⟩, .string ⟨#[]⟩, .slice none 0 0, .slice none 0 0, .slice none 0 0, .slice none 0 0, .string ⟨#[]⟩] 106)).alloc (by simp) (.cells #[.slice none 0 0, .slice none 0 0, .bool false, .bool false, .bool false, .string ⟨#[]⟩, .string ⟨#[]⟩, .string ⟨#[]⟩, .slice none 0 0, .slice none 0 0, .slice none 0 0, .slice none 0 0, .string ⟨#[]⟩] 106)).alloc (by simp; omega) (.cells #[.slice none 0 0, .slice none 0 0, .bool false, .bool false, .bool false, .string ⟨#[]⟩, .string ⟨#[]⟩, .string ⟨#[]⟩, .slice none 0 0, .slice none 0 0, .slice none 0 0, .slice none 0 0, .string ⟨#[]⟩] 106)
  have HG := Lib.hid ((cellB hb (g := g) hg 0).trans hc)
  have HB := Lib.hid hb
  have HP := Lib.hid hP
  have HQ := Lib.hid hQ
  have HR := Lib.hid hR
  have lP := hP.1
  have lQ := hQ.1
  have lR := lt_of_block hR
  have p0 := hP.2 0 _ rfl
  have p1 := hP.2 1 _ rfl
  have p2 := hP.2 2 _ rfl
  have p3 := hP.2 3 _ rfl
  have p4 := hP.2 4 _ rfl
  have p5 := hP.2 5 _ rfl
  have p6 := hP.2 6 _ rfl
  have p7 := hP.2 7 _ rfl
  have p8 := hP.2 8 _ rfl
  have p9 := hP.2 9 _ rfl
  have p10 := hP.2 10 _ rfl
  have p11 := hP.2 11 _ rfl
  have p12 := hP.2 12 _ rfl
  have q0 := hQ.2 0 _ rfl
  have q1 := hQ.2 1 _ rfl
  have q2 := hQ.2 2 _ rfl
  have q3 := hQ.2 3 _ rfl
  have q4 := hQ.2 4 _ rfl
  have q5 := hQ.2 5 _ rfl
  have q6 := hQ.2 6 _ rfl
  have q7 := hQ.2 7 _ rfl
  have q8 := hQ.2 8 _ rfl
  have q9 := hQ.2 9 _ rfl
  have q10 := hQ.2 10 _ rfl
  have q11 := hQ.2 11 _ rfl
  have q12 := hQ.2 12 _ rfl
  clear hP hQ hR hy hz hb hc
  have hmm := @run_makeMap Tryz.prog
  have hi0 := idx2_0
  have hi1 := idx2_1
  go_enter Tryz.func47, Tryz.ntmps47
  go_wp2_with fail
  generalize World.alloc (World.alloc (World.alloc w _) _) _ = W at *
  refine wp_loop_rounds 3 ?_
  have hx := CA.made W [.slice (some ⟨g, 0, none⟩) 1 gc, .slice none 0 0, .bool false, .bool false, .bool false, .string ⟨#[]⟩, .string ⟨#[]⟩, .string ⟨#[]⟩, .slice none 0 0, .slice none 0 0, .slice none 0 0, .slice none 0 0, .string ⟨#[]⟩] 106
  have ha := below_alloc1 W (.cells #[.slice (some ⟨g, 0, none⟩) 1 gc, .slice none 0 0, .bool false, .bool false, .bool false, .string ⟨#[]⟩, .string ⟨#[]⟩, .string ⟨#[]⟩, .slice none 0 0, .slice none 0 0, .slice none 0 0, .slice none 0 0, .string ⟨#[]⟩] 106)
  have x0 := hx.2 0 _ rfl
  have x1 := hx.2 1 _ rfl
  have x2 := hx.2 2 _ rfl
  have x3 := hx.2 3 _ rfl
  have x4 := hx.2 4 _ rfl
  have x5 := hx.2 5 _ rfl
  have x6 := hx.2 6 _ rfl
  have x7 := hx.2 7 _ rfl
  have x8 := hx.2 8 _ rfl
  have x9 := hx.2 9 _ rfl
  have x10 := hx.2 10 _ rfl
  have x11 := hx.2 11 _ rfl
  have x12 := hx.2 12 _ rfl
  have HA := Lib.hid ha
  have HG1 := Lib.hid ((cellB ha (g := g) (by omega) 0).trans HG.out)
  clear hx ha
  clear p0 p1 p2 p3 p4 p5 p6 p7 p8 p9 p10 p11 p12 q0 q1 q2 q3 q4 q5 q6 q7 q8 q9 q10 q11 q12
  rw [rounds_succ]
  go_wp2_with fail
  refine (checkPatch_gone (some ⟨g, 0, none⟩) 1 gc _ (by decide) (fun X hX => rising_one g gc X ((cellB hX (g := g) (by have := HA.out.size; omega) 0).trans HG1.out))).mono ?_
  rintro e W1 ⟨rfl, hb⟩
  clear x0 x1 x2 x3 x4 x5 x6 x7 x8 x9 x10 x11 x12
  have hb := HA.out.trans (hb.mono (by simp))
  have HP := Lib.hid (HP.out.below hb)
  have HQ := Lib.hid (HQ.out.below hb)
  have HR := Lib.hid ((hb.block _ lR).trans HR.out)
  have HG := Lib.hid ((cellB hb (g := g) (by omega) 0).trans HG.out)
  have HB := Lib.hid (HB.out.trans (hb.mono HB.out.size))
  have lR := lt_of_block HR.out
  clear hb

  go_wp2_with fail
  have hx := CA.made W1 [.slice none 0 0, .slice none 0 0, .bool false, .bool false, .bool false, .string ⟨#[]⟩, .string ⟨#[]⟩, .string ⟨#[]⟩, .slice none 0 0, .slice none 0 0, .slice none 0 0, .slice none 0 0, .string ⟨#[]⟩] 106
  have ha := below_alloc1 W1 (.cells #[.slice none 0 0, .slice none 0 0, .bool false, .bool false, .bool false, .string ⟨#[]⟩, .string ⟨#[]⟩, .string ⟨#[]⟩, .slice none 0 0, .slice none 0 0, .slice none 0 0, .slice none 0 0, .string ⟨#[]⟩] 106)
  have x0 := hx.2 0 _ rfl
  have x1 := hx.2 1 _ rfl
  have x2 := hx.2 2 _ rfl
  have x3 := hx.2 3 _ rfl
  have x4 := hx.2 4 _ rfl
  have x5 := hx.2 5 _ rfl
  have x6 := hx.2 6 _ rfl
  have x7 := hx.2 7 _ rfl
  have x8 := hx.2 8 _ rfl
  have x9 := hx.2 9 _ rfl
  have x10 := hx.2 10 _ rfl
  have x11 := hx.2 11 _ rfl
  have x12 := hx.2 12 _ rfl
  have HA := Lib.hid ha
  have HG1 := Lib.hid ((cellB ha (g := g) (by omega) 0).trans HG.out)
  clear hx ha
  rw [rounds_succ]
  go_wp2_with fail
  refine (checkPatch_gone none 0 0 _ (by decide) (fun X hX => (rising_nil X 0).mono (by rintro e w1 ⟨rfl, rfl⟩; exact ⟨rfl, Below.refl _ _⟩))).mono ?_
  rintro e W2 ⟨rfl, hb⟩
  clear x0 x1 x2 x3 x4 x5 x6 x7 x8 x9 x10 x11 x12
  have hb := HA.out.trans (hb.mono (by simp))
  have HP := Lib.hid (HP.out.below hb)
  have HQ := Lib.hid (HQ.out.below hb)
  have HR := Lib.hid ((hb.block _ lR).trans HR.out)
  have HG := Lib.hid ((cellB hb (g := g) (by omega) 0).trans HG.out)
  have HB := Lib.hid (HB.out.trans (hb.mono HB.out.size))
  have lR := lt_of_block HR.out
  clear hb

  go_wp2_with fail
  rw [rounds_succ]
  have p0 := HP.out.2 0 _ rfl
  have p1 := HP.out.2 1 _ rfl
  have p2 := HP.out.2 2 _ rfl
  have p3 := HP.out.2 3 _ rfl
  have p4 := HP.out.2 4 _ rfl
  have p5 := HP.out.2 5 _ rfl
  have p6 := HP.out.2 6 _ rfl
  have p7 := HP.out.2 7 _ rfl
  have p8 := HP.out.2 8 _ rfl
  have p9 := HP.out.2 9 _ rfl
  have p10 := HP.out.2 10 _ rfl
  have p11 := HP.out.2 11 _ rfl
  have p12 := HP.out.2 12 _ rfl
  have q0 := HQ.out.2 0 _ rfl
  have q1 := HQ.out.2 1 _ rfl
  have q2 := HQ.out.2 2 _ rfl
  have q3 := HQ.out.2 3 _ rfl
  have q4 := HQ.out.2 4 _ rfl
  have q5 := HQ.out.2 5 _ rfl
  have q6 := HQ.out.2 6 _ rfl
  have q7 := HQ.out.2 7 _ rfl
  have q8 := HQ.out.2 8 _ rfl
  have q9 := HQ.out.2 9 _ rfl
  have q10 := HQ.out.2 10 _ rfl
  have q11 := HQ.out.2 11 _ rfl
  have q12 := HQ.out.2 12 _ rfl
  have lP := HP.out.1
  have lQ := HQ.out.1
  go_wp2_with fail
  refine (Tryz.slices_Clone_string_nil 0 0 _).mono ?_
  rintro e w3 ⟨rfl, rfl⟩
  have hb := (below_alloc1 W2 (.map #[] 0)).alloc (by simp) (.cells #[.slice none 0 0, .slice none 0 0, .bool false, .bool false, .bool false, .string ⟨#[]⟩, .string ⟨#[]⟩, .string ⟨#[]⟩, .slice none 0 0, .slice none 0 0, .slice none 0 0, .slice none 0 0, .string ⟨#[]⟩] 106)
  have hT := heap_alloc_new (W2.alloc (.map #[] 0)) (.cells #[.slice none 0 0, .slice none 0 0, .bool false, .bool false, .bool false, .string ⟨#[]⟩, .string ⟨#[]⟩, .string ⟨#[]⟩, .slice none 0 0, .slice none 0 0, .slice none 0 0, .slice none 0 0, .string ⟨#[]⟩] 106)
  have hsz : (W2.alloc (.map #[] 0)).heap.size = W2.heap.size + 1 := by simp
  rw [hsz] at hT
  have HT := Lib.hid hT
  have HMP := Lib.hid ((MapIs.made W2 Value.bool).alloc (.cells #[.slice none 0 0, .slice none 0 0, .bool false, .bool false, .bool false, .string ⟨#[]⟩, .string ⟨#[]⟩, .string ⟨#[]⟩, .slice none 0 0, .slice none 0 0, .slice none 0 0, .slice none 0 0, .string ⟨#[]⟩] 106))
  have hMT : w.heap.size + 1 + 1 < W2.heap.size := lR
  have hb := hb
  have HP := Lib.hid (HP.out.below hb)
  have HQ := Lib.hid (HQ.out.below hb)
  have HR := Lib.hid ((hb.block _ lR).trans HR.out)
  have HG := Lib.hid ((cellB hb (g := g) (by omega) 0).trans HG.out)
  have HB := Lib.hid (HB.out.trans (hb.mono HB.out.size))
  have lR := lt_of_block HR.out
  clear hb
  clear hT hsz p0 p1 p2 p3 p4 p5 p6 p7 p8 p9 p10 p11 p12 q0 q1 q2 q3 q4 q5 q6 q7 q8 q9 q10 q11 q12
  have p0 := HP.out.2 0 _ rfl
  have p1 := HP.out.2 1 _ rfl
  have p2 := HP.out.2 2 _ rfl
  have p3 := HP.out.2 3 _ rfl
  have p4 := HP.out.2 4 _ rfl
  have p5 := HP.out.2 5 _ rfl
  have p6 := HP.out.2 6 _ rfl
  have p7 := HP.out.2 7 _ rfl
  have p8 := HP.out.2 8 _ rfl
  have p9 := HP.out.2 9 _ rfl
  have p10 := HP.out.2 10 _ rfl
  have p11 := HP.out.2 11 _ rfl
  have p12 := HP.out.2 12 _ rfl
  have q0 := HQ.out.2 0 _ rfl
  have q1 := HQ.out.2 1 _ rfl
  have q2 := HQ.out.2 2 _ rfl
  have q3 := HQ.out.2 3 _ rfl
  have q4 := HQ.out.2 4 _ rfl
  have q5 := HQ.out.2 5 _ rfl
  have q6 := HQ.out.2 6 _ rfl
  have q7 := HQ.out.2 7 _ rfl
  have q8 := HQ.out.2 8 _ rfl
  have q9 := HQ.out.2 9 _ rfl
  have q10 := HQ.out.2 10 _ rfl
  have q11 := HQ.out.2 11 _ rfl
  have q12 := HQ.out.2 12 _ rfl
  have hlk := run_get (P := Tryz.prog) HMP.out Tryz.underlying156 Tryz.underlying9 (Tryz.zeroTold _) ⟨#[97]⟩
  have g0 := HG.out
  simp only [get_nil] at hlk
  go_wp2_with fail
  generalize World.alloc (World.alloc W2 _) _ = W3 at *
  generalize W2.heap.size = M at *
  have lP := HP.out.1
  have lQ := HQ.out.1
  have lR := lt_of_block HR.out
  have lT := lt_of_block HT.out
  have lG := cell_lt HG.out
  have t0 := cell_of HT.out 0
  simp only [List.getElem?_toArray, List.getElem?_cons_zero] at t0
  have ft : W3.frozen? ⟨M + 1, 0, none⟩ = false := by simp [World.frozen?, HT.out]
  refine wp_loop_rounds 1 ?_
  rw [rounds_succ]
  go_wp2_with fail
  refine wp_loop_rounds 1 ?_
  rw [rounds_succ]
  go_wp2_with fail
  refine wp_loop_rounds 2 ?_
  rw [rounds_succ]
  go_wp2_with (at_builtin; refine wpList_append_own _ rfl (.tmp 79) (.tmp 81) 99 rfl W3.heap.size 9 i0 (.string ⟨#[]⟩) 1 16 Tryz.underlying99 hi hz0 hz1 hz2 rfl (by decide) _ _ _ rfl (World.ownsRow_nil _ _ _ _) ⟨W3.heap.size, 0, none⟩ 1 1 [.string ⟨#[97]⟩] rfl rfl ?a1 ?a2 ?a3 ?a4 ?a5 ?_)
  case a1 => exact cells_new W3 [.string ⟨#[97]⟩] _
  case a2 => simp [Value.oneCell']
  case a3 => unfold maxLen; omega
  case a4 => omega
  case a5 => simp
  intro v4 W4 ho4 hg4 _
  obtain ⟨g4, c4, rfl, hC4, hge⟩ := own_one ho4 (by omega)
  have ho4' : W4.ownsRow W3.heap.size 9 1 (.slice (some ⟨g4, 0, none⟩) 1 c4) 1 [.string ⟨#[97]⟩] := ho4
  have hb := (below_alloc1 W3 (.cells #[.string ⟨#[97]⟩] 9)).grown hg4 (by simp) (fun j e => by cases e)
  have HT := Lib.hid ((hb.block _ lT).trans HT.out)
  have l4 := hC4.1
  have HO := Lib.hid ho4'
  have HGE := Lib.hid hge
  have hb := hb
  have HP := Lib.hid (HP.out.below hb)
  have HQ := Lib.hid (HQ.out.below hb)
  have HR := Lib.hid ((hb.block _ lR).trans HR.out)
  have HG := Lib.hid ((cellB hb (g := g) (by omega) 0).trans HG.out)
  have HB := Lib.hid (HB.out.trans (hb.mono HB.out.size))
  have lR := lt_of_block HR.out
  clear hb
  have HL3 := Lib.hid lT
  clear ho4 ho4' hg4 hC4 hge hlk g0 t0 ft HMP lT lG p0 p1 p2 p3 p4 p5 p6 p7 p8 p9 p10 p11 p12 q0 q1 q2 q3 q4 q5 q6 q7 q8 q9 q10 q11 q12
  have ft : W4.frozen? ⟨M + 1, 0, none⟩ = false := by simp [World.frozen?, HT.out]
  have t0 := cell_of HT.out 0
  simp only [List.getElem?_toArray, List.getElem?_cons_zero] at t0
  go_wp2_with fail
  have hlt4 : M + 1 < g4 := by have := HGE.out; have := HL3.out; omega
  have hb := below_put (Below.refl (M + 1) W4) (Nat.le_of_lt (lt_of_block HT.out)) (Nat.le_refl _) 0 (.slice (some ⟨g4, 0, none⟩) 1 c4)
  have hT := ((Re.refl HT.out).set 0 (.slice (some ⟨g4, 0, none⟩) 1 c4)).blk
  have HO := Lib.hid (rw_same HO.out (w' := W4.setCell ⟨M + 1, 0, none⟩ (.slice (some ⟨g4, 0, none⟩) 1 c4)) (fun k hk => by
    have : g4 = k := by simpa [Value.ownBlock] using hk
    subst this
    exact Below.heap_setCell W4 _ _ _ (by simp; omega)))
  have HP := Lib.hid (HP.out.belowB hb (by omega))
  have HQ := Lib.hid (HQ.out.belowB hb (by omega))
  have HR := Lib.hid ((hb.block _ (by omega)).trans HR.out)
  have HB := Lib.hid (below_put HB.out HB.out.size (g := M + 1) (by omega) 0 (.slice (some ⟨g4, 0, none⟩) 1 c4))
  clear hb t0 ft
  generalize World.setCell _ _ _ = W5 at *
  have hT' : W5.heap[M + 1]? = some (.cells #[.slice (some ⟨g4, 0, none⟩) 1 c4, .slice none 0 0, .bool false, .bool false, .bool false, .string ⟨#[]⟩, .string ⟨#[]⟩, .string ⟨#[]⟩, .slice none 0 0, .slice none 0 0, .slice none 0 0, .slice none 0 0, .string ⟨#[]⟩] 106 (0, 0)) := by simpa using hT
  have HT := Lib.hid hT'
  clear hT hT'
  have lR := lt_of_block HR.out
  have lT := lt_of_block HT.out
  have lP := HP.out.1
  have p0 := HP.out.2 0 _ rfl
  have p1 := HP.out.2 1 _ rfl
  have p2 := HP.out.2 2 _ rfl
  have p3 := HP.out.2 3 _ rfl
  have p4 := HP.out.2 4 _ rfl
  have p5 := HP.out.2 5 _ rfl
  have p6 := HP.out.2 6 _ rfl
  have p7 := HP.out.2 7 _ rfl
  have p8 := HP.out.2 8 _ rfl
  have p9 := HP.out.2 9 _ rfl
  have p10 := HP.out.2 10 _ rfl
  have p11 := HP.out.2 11 _ rfl
  have p12 := HP.out.2 12 _ rfl
  have q0 := HQ.out.2 0 _ rfl
  have q1 := HQ.out.2 1 _ rfl
  have q2 := HQ.out.2 2 _ rfl
  have q3 := HQ.out.2 3 _ rfl
  have q4 := HQ.out.2 4 _ rfl
  have q5 := HQ.out.2 5 _ rfl
  have q6 := HQ.out.2 6 _ rfl
  have q7 := HQ.out.2 7 _ rfl
  have q8 := HQ.out.2 8 _ rfl
  have q9 := HQ.out.2 9 _ rfl
  have q10 := HQ.out.2 10 _ rfl
  have q11 := HQ.out.2 11 _ rfl
  have q12 := HQ.out.2 12 _ rfl
  have t0 := cell_of HT.out 0
  have t1 := cell_of HT.out 1
  simp only [List.getElem?_toArray, List.getElem?_cons_zero, List.getElem?_cons_succ] at t0 t1
  rw [rounds_succ]
  go_wp2_with fail
  refine wp_loop_rounds 1 ?_
  rw [rounds_succ]
  go_wp2_with fail
  refine (sort_oneS _ g4 c4 W5 HO.out).mono ?_
  rintro e W6 ⟨rfl, ho6, hg6⟩
  have hb := (Below.refl (M + 2) W5).grown hg6 (by omega) (fun j e => by injection e with e; omega)
  have HT := Lib.hid ((hb.block _ (by omega)).trans HT.out)
  have HP := Lib.hid (HP.out.belowB hb (by omega))
  have HQ := Lib.hid (HQ.out.belowB hb (by omega))
  have HR := Lib.hid ((hb.block _ (by omega)).trans HR.out)
  have HB := Lib.hid (HB.out.grown hg6 HB.out.size (fun j e => by injection e with e; omega))
  have lR := lt_of_block HR.out
  have lP := HP.out.1
  have lT := lt_of_block HT.out
  clear hb ho6 hg6 HO p0 p1 p2 p3 p4 p5 p6 p7 p8 p9 p10 p11 p12 q0 q1 q2 q3 q4 q5 q6 q7 q8 q9 q10 q11 q12 t0 t1
  have p0 := HP.out.2 0 _ rfl
  have p1 := HP.out.2 1 _ rfl
  have p2 := HP.out.2 2 _ rfl
  have p3 := HP.out.2 3 _ rfl
  have p4 := HP.out.2 4 _ rfl
  have p5 := HP.out.2 5 _ rfl
  have p6 := HP.out.2 6 _ rfl
  have p7 := HP.out.2 7 _ rfl
  have p8 := HP.out.2 8 _ rfl
  have p9 := HP.out.2 9 _ rfl
  have p10 := HP.out.2 10 _ rfl
  have p11 := HP.out.2 11 _ rfl
  have p12 := HP.out.2 12 _ rfl
  have q0 := HQ.out.2 0 _ rfl
  have q1 := HQ.out.2 1 _ rfl
  have q2 := HQ.out.2 2 _ rfl
  have q3 := HQ.out.2 3 _ rfl
  have q4 := HQ.out.2 4 _ rfl
  have q5 := HQ.out.2 5 _ rfl
  have q6 := HQ.out.2 6 _ rfl
  have q7 := HQ.out.2 7 _ rfl
  have q8 := HQ.out.2 8 _ rfl
  have q9 := HQ.out.2 9 _ rfl
  have q10 := HQ.out.2 10 _ rfl
  have q11 := HQ.out.2 11 _ rfl
  have q12 := HQ.out.2 12 _ rfl
  have t0 := cell_of HT.out 0
  have t1 := cell_of HT.out 1
  simp only [List.getElem?_toArray, List.getElem?_cons_zero, List.getElem?_cons_succ] at t0 t1
  go_wp2_with fail
  refine (sortPeer_nil _ _).mono ?_
  rintro e W7 ⟨rfl, rfl⟩
  go_wp2_with fail
  clear p0 p1 p2 p3 p4 p5 p6 p7 p8 p9 p10 p11 p12 q0 q1 q2 q3 q4 q5 q6 q7 q8 q9 q10 q11 q12 t0 t1
  refine wp_loop_rounds 3 ?_
  have hx := CA.made W6 [.slice (some ⟨g, 0, none⟩) 1 gc, .slice none 0 0, .bool false, .bool false, .bool false, .string ⟨#[]⟩, .string ⟨#[]⟩, .string ⟨#[]⟩, .slice none 0 0, .slice none 0 0, .slice none 0 0, .slice none 0 0, .string ⟨#[]⟩] 106
  have hb := below_alloc1 W6 (.cells #[.slice (some ⟨g, 0, none⟩) 1 gc, .slice none 0 0, .bool false, .bool false, .bool false, .string ⟨#[]⟩, .string ⟨#[]⟩, .string ⟨#[]⟩, .slice none 0 0, .slice none 0 0, .slice none 0 0, .slice none 0 0, .string ⟨#[]⟩] 106)
  have HT := Lib.hid ((hb.block _ (lt_of_block HT.out)).trans HT.out)
  have x0 := hx.2 0 _ rfl
  have x1 := hx.2 1 _ rfl
  have x2 := hx.2 2 _ rfl
  have x3 := hx.2 3 _ rfl
  have x4 := hx.2 4 _ rfl
  have x5 := hx.2 5 _ rfl
  have x6 := hx.2 6 _ rfl
  have x7 := hx.2 7 _ rfl
  have x8 := hx.2 8 _ rfl
  have x9 := hx.2 9 _ rfl
  have x10 := hx.2 10 _ rfl
  have x11 := hx.2 11 _ rfl
  have x12 := hx.2 12 _ rfl
  have HP := Lib.hid (HP.out.below hb)
  have HQ := Lib.hid (HQ.out.below hb)
  have HR := Lib.hid ((hb.block _ lR).trans HR.out)
  have HB := Lib.hid (HB.out.trans (hb.mono HB.out.size))
  have lR := lt_of_block HR.out
  clear hx hb
  rw [rounds_succ]
  go_wp2_with fail
  clear x0 x1 x2 x3 x4 x5 x6 x7 x8 x9 x10 x11 x12
  generalize World.alloc W6 _ = W8 at *
  have hx := CA.made W8 [.slice none 0 0, .slice none 0 0, .bool false, .bool false, .bool false, .string ⟨#[]⟩, .string ⟨#[]⟩, .string ⟨#[]⟩, .slice none 0 0, .slice none 0 0, .slice none 0 0, .slice none 0 0, .string ⟨#[]⟩] 106
  have hb := below_alloc1 W8 (.cells #[.slice none 0 0, .slice none 0 0, .bool false, .bool false, .bool false, .string ⟨#[]⟩, .string ⟨#[]⟩, .string ⟨#[]⟩, .slice none 0 0, .slice none 0 0, .slice none 0 0, .slice none 0 0, .string ⟨#[]⟩] 106)
  have HT := Lib.hid ((hb.block _ (lt_of_block HT.out)).trans HT.out)
  have x0 := hx.2 0 _ rfl
  have x1 := hx.2 1 _ rfl
  have x2 := hx.2 2 _ rfl
  have x3 := hx.2 3 _ rfl
  have x4 := hx.2 4 _ rfl
  have x5 := hx.2 5 _ rfl
  have x6 := hx.2 6 _ rfl
  have x7 := hx.2 7 _ rfl
  have x8 := hx.2 8 _ rfl
  have x9 := hx.2 9 _ rfl
  have x10 := hx.2 10 _ rfl
  have x11 := hx.2 11 _ rfl
  have x12 := hx.2 12 _ rfl
  have HP := Lib.hid (HP.out.below hb)
  have HQ := Lib.hid (HQ.out.below hb)
  have HR := Lib.hid ((hb.block _ lR).trans HR.out)
  have HB := Lib.hid (HB.out.trans (hb.mono HB.out.size))
  have lR := lt_of_block HR.out
  clear hx hb
  rw [rounds_succ]
  go_wp2_with fail
  clear x0 x1 x2 x3 x4 x5 x6 x7 x8 x9 x10 x11 x12
  generalize World.alloc W8 _ = W9 at *
  have HTC := Lib.hid (c13 HT.out)
  obtain ⟨t0, t1, t2, t3, t4, t5, t6, t7, t8, t9, t10, t11, t12⟩ := HTC.out
  obtain ⟨r0, r1, r2, r3, r4, r5, r6, r7, r8, r9, r10, r11, r12⟩ := c13 HR.out
  have f0 := eightF HR.out 0
  have f1 := eightF HR.out 1
  have f2 := eightF HR.out 2
  have f3 := eightF HR.out 3
  have f4 := eightF HR.out 4
  have f5 := eightF HR.out 5
  have f6 := eightF HR.out 6
  have f7 := eightF HR.out 7
  have f8 := eightF HR.out 8
  have f9 := eightF HR.out 9
  have f10 := eightF HR.out 10
  have f11 := eightF HR.out 11
  have f12 := eightF HR.out 12
  have lT := lt_of_block HT.out
  rw [rounds_succ]
  go_wp2_with fail
  clear r0 r1 r2 r3 r4 r5 r6 r7 r8 r9 r10 r11 r12 t0 t1 t2 t3 t4 t5 t6 t7 t8 t9 t10 t11 t12 f0 f1 f2 f3 f4 f5 f6 f7 f8 f9 f10 f11 f12
  have hr := ((((((((((((((Re.refl HR.out).set 0 (.slice (some ⟨g4, 0, none⟩) 1 c4)).set 1 (.slice none 0 0)).set 2 (.bool false)).set 3 (.bool false)).set 4 (.bool false)).set 5 (.string ⟨#[]⟩)).set 6 (.string ⟨#[]⟩)).set 7 (.string ⟨#[]⟩)).set 8 (.slice none 0 0)).set 9 (.slice none 0 0)).set 10 (.slice none 0 0)).set 11 (.slice none 0 0)).set 12 (.string ⟨#[]⟩))
  have hbr := hr.below HB.out (by omega)
  generalize hW : World.setCell _ _ _ = WF
  rw [hW] at hr hbr
  clear hW
  have hbk : WF.heap[w.heap.size + 1 + 1]? = some (.cells #[.slice (some ⟨g4, 0, none⟩) 1 c4, .slice none 0 0, .bool false, .bool false, .bool false, .string ⟨#[]⟩, .string ⟨#[]⟩, .string ⟨#[]⟩, .slice none 0 0, .slice none 0 0, .slice none 0 0, .slice none 0 0, .string ⟨#[]⟩] 106 (0, 0)) := by simpa using hr.blk
  obtain ⟨z0, z1, z2, z3, z4, z5, z6, z7, z8, z9, z10, z11, z12⟩ := c13 hbk
  refine bodyPost_ret (v := .tuple #[.agg #[.slice (some ⟨g4, 0, none⟩) 1 c4, .slice none 0 0, .bool false, .bool false, .bool false, .string ⟨#[]⟩, .string ⟨#[]⟩, .string ⟨#[]⟩, .slice none 0 0, .slice none 0 0, .slice none 0 0, .slice none 0 0, .string ⟨#[]⟩], .int .i64 0]) (by simp [results, Tryz.results47, go_sem, z0, z1, z2, z3, z4, z5, z6, z7, z8, z9, z10, z11, z12]) rfl ⟨g4, c4, rfl, hbr⟩
end Go.Proofs.YtajifionclpphaaGreatDoor
