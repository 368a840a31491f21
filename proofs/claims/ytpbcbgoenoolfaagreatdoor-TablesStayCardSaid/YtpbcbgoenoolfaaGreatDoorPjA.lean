/- netmap.CheckPatch where nothing but some keys goes; slices.SortFunc of no peers. -/
import Derived.Test.YtpbcbgoenoolfaaGreatDoorRyC
namespace Go.Proofs.YtpbcbgoenoolfaaGreatDoor
open Go.RowKit Go.Hw Go.Shelf

set_option maxRecDepth 100000 in
theorem eqAddr_nil (w : World) : Calls Tryz.prog 157 #[.slice none 0 0, .slice none 0 0] w fun e w' => e = .returned (.bool true) ∧ w = w' := by
  go_enter Tryz.func157, Tryz.ntmps157
  go_wp2_with fail
  refine wp_loop_rounds 1 ?_
  rw [rounds_succ]
  go_wp2_with fail
  go_ret
  exact ⟨rfl, rfl⟩
set_option maxRecDepth 100000 in
theorem eqPrefix_nil (w : World) : Calls Tryz.prog 158 #[.slice none 0 0, .slice none 0 0] w fun e w' => e = .returned (.bool true) ∧ w = w' := by
  go_enter Tryz.func158, Tryz.ntmps158
  go_wp2_with fail
  refine wp_loop_rounds 1 ?_
  rw [rounds_succ]
  go_wp2_with fail
  go_ret
  exact ⟨rfl, rfl⟩
set_option maxRecDepth 100000 in
theorem peersFault_nil (s : ByteArray) (w : World) : Calls Tryz.prog 107 #[.slice none 0 0, .string s] w fun e w' => e = .returned (.int .i64 0) ∧ w = w' := by
  go_enter Tryz.func107, Tryz.ntmps107
  go_wp2_with fail
  refine wp_loop_rounds 1 ?_
  rw [rounds_succ]
  go_wp2_with fail
  go_ret
  exact ⟨rfl, rfl⟩
set_option maxRecDepth 100000 in
theorem idxPeer_nil (f : Value) (w : World) : Calls Tryz.prog 154 #[.slice none 0 0, f] w fun e w' => e = .returned (.int .i64 (-1)) ∧ w = w' := by
  go_enter Tryz.func154, Tryz.ntmps154
  go_wp2_with fail
  refine wp_loop_rounds 1 ?_
  rw [rounds_succ]
  go_wp2_with fail
  go_ret
  exact ⟨rfl, rfl⟩
set_option maxRecDepth 100000 in
theorem anyPeer_nil (f : Value) (w : World) : Calls Tryz.prog 108 #[.slice none 0 0, f] w fun e w' => e = .returned (.bool false) ∧ w = w' := by
  go_enter Tryz.func108, Tryz.ntmps108
  go_wp2_with fail
  refine (idxPeer_nil f w).mono ?_
  rintro e w1 ⟨rfl, rfl⟩
  go_wp2_with fail
  go_ret
  exact ⟨rfl, rfl⟩
set_option maxRecDepth 100000 in
theorem len_zero (w : World) : Calls Tryz.prog 46 #[.int .u64 0] w fun e w' => e = .returned (.int .i64 0) ∧ w = w' := by
  have hb := Tryz.bits_Len64 0 w (by omega) (by omega)
  have hz : ((Lib.bitLen (Int.toNat 0) : Nat) : Int) = 0 := by kernel_rfl
  rw [hz] at hb
  clear hz
  go_enter Tryz.func46, Tryz.ntmps46
  go_wp2_with fail
  refine hb.mono ?_
  rintro e w1 ⟨rfl, rfl⟩
  go_wp2_with fail
  go_ret
  exact ⟨rfl, rfl⟩
set_option maxRecDepth 100000 in
theorem insPeer_nil (f : Value) (w : World) : Calls Tryz.prog 172 #[.slice none 0 0, .int .i64 0, .int .i64 0, f] w fun e w' => e = .returned (.tuple #[]) ∧ w = w' := by
  go_enter Tryz.func172, Tryz.ntmps172
  go_wp2_with fail
  refine wp_loop_rounds 1 ?_
  rw [rounds_succ]
  go_wp2_with fail
  go_end0
  exact ⟨rfl, rfl⟩
set_option maxRecDepth 100000 in
theorem pdqPeer_nil (f : Value) (x : Int) (w : World) : Calls Tryz.prog 118 #[.slice none 0 0, .int .i64 0, .int .i64 0, .int .i64 x, f] w fun e w' => e = .returned (.tuple #[]) ∧ w = w' := by
  go_enter Tryz.func118, Tryz.ntmps118
  go_wp2_with fail
  refine wp_loop_rounds 1 ?_
  rw [rounds_succ]
  go_wp2_with fail
  refine (insPeer_nil f w).mono ?_
  rintro e w1 ⟨rfl, rfl⟩
  go_wp2_with fail
  refine bodyPost_ret (v := .tuple #[]) (by simp [results, Tryz.results118, go_sem]) rfl ⟨rfl, rfl⟩
set_option maxRecDepth 100000 in
theorem sortPeer_nil (f : Value) (w : World) : Calls Tryz.prog 59 #[.slice none 0 0, f] w fun e w' => e = .returned (.tuple #[]) ∧ w = w' := by
  go_enter Tryz.func59, Tryz.ntmps59
  go_wp2_with fail
  refine (len_zero w).mono ?_
  rintro e w1 ⟨rfl, rfl⟩
  go_wp2_with fail
  refine (pdqPeer_nil f _ w).mono ?_
  rintro e w1 ⟨rfl, rfl⟩
  go_wp2_with fail
  go_end0
  exact ⟨rfl, rfl⟩

/-! ### nodes -/
set_option maxRecDepth 100000 in
set_option maxHeartbeats 1000000 in
theorem sameNode_zero (w : World) : Calls Tryz.prog 112 #[.agg #[.string ⟨#[]⟩, .string ⟨#[]⟩, .string ⟨#[]⟩, .slice none 0 0, .slice none 0 0, .slice none 0 0], .agg #[.string ⟨#[]⟩, .string ⟨#[]⟩, .string ⟨#[]⟩, .slice none 0 0, .slice none 0 0, .slice none 0 0]] w fun e w' => e = .returned (.bool true) ∧ Below w.heap.size w w' := by
  have h1 : CA ((w.alloc (.cells #[.string ⟨#[]⟩, .string ⟨#[]⟩, .string ⟨#[]⟩, .slice none 0 0, .slice none 0 0, .slice none 0 0] 83)).alloc (.cells #[.string ⟨#[]⟩, .string ⟨#[]⟩, .string ⟨#[]⟩, .slice none 0 0, .slice none 0 0, .slice none 0 0] 83)) w.heap.size [.string ⟨#[]⟩, .string ⟨#[]⟩, .string ⟨#[]⟩, .slice none 0 0, .slice none 0 0, .slice none 0 0] := (CA.made w _ _).alloc _
  have h2 : CA ((w.alloc (.cells #[.string ⟨#[]⟩, .string ⟨#[]⟩, .string ⟨#[]⟩, .slice none 0 0, .slice none 0 0, .slice none 0 0] 83)).alloc (.cells #[.string ⟨#[]⟩, .string ⟨#[]⟩, .string ⟨#[]⟩, .slice none 0 0, .slice none 0 0, .slice none 0 0] 83)) (w.heap.size + 1) [.string ⟨#[]⟩, .string ⟨#[]⟩, .string ⟨#[]⟩, .slice none 0 0, .slice none 0 0, .slice none 0 0] := by
    have := CA.made (w.alloc (.cells #[.string ⟨#[]⟩, .string ⟨#[]⟩, .string ⟨#[]⟩, .slice none 0 0, .slice none 0 0, .slice none 0 0] 83)) [.string ⟨#[]⟩, .string ⟨#[]⟩, .string ⟨#[]⟩, .slice none 0 0, .slice none 0 0, .slice none 0 0] 83
    rw [show (w.alloc (.cells #[.string ⟨#[]⟩, .string ⟨#[]⟩, .string ⟨#[]⟩, .slice none 0 0, .slice none 0 0, .slice none 0 0] 83)).heap.size = w.heap.size + 1 from by simp] at this
    exact this
  have HB := Lib.hid ((below_alloc1 w (.cells #[.string ⟨#[]⟩, .string ⟨#[]⟩, .string ⟨#[]⟩, .slice none 0 0, .slice none 0 0, .slice none 0 0] 83)).alloc (by simp) (.cells #[.string ⟨#[]⟩, .string ⟨#[]⟩, .string ⟨#[]⟩, .slice none 0 0, .slice none 0 0, .slice none 0 0] 83))
  have a0 := h1.2 0 _ rfl
  have b0 := h2.2 0 _ rfl
  have a1 := h1.2 1 _ rfl
  have b1 := h2.2 1 _ rfl
  have a2 := h1.2 2 _ rfl
  have b2 := h2.2 2 _ rfl
  have a3 := h1.2 3 _ rfl
  have b3 := h2.2 3 _ rfl
  have a4 := h1.2 4 _ rfl
  have b4 := h2.2 4 _ rfl
  have a5 := h1.2 5 _ rfl
  have b5 := h2.2 5 _ rfl
  clear h1 h2
  go_enter Tryz.func112, Tryz.ntmps112
  go_wp2_with fail
  refine (Tryz.slices_Equal_string_empty none none 0 0 0 _ (by omega)).mono ?_
  rintro e w1 ⟨rfl, rfl⟩
  rw [show decide ((0 : Nat) = 0) = true from rfl]
  go_wp2_with fail
  refine (eqAddr_nil _).mono ?_
  rintro e w1 ⟨rfl, rfl⟩
  go_wp2_with fail
  refine (eqPrefix_nil _).mono ?_
  rintro e w1 ⟨rfl, rfl⟩
  go_wp2_with fail
  go_ret
  exact ⟨rfl, HB.out⟩

/-! ### a patch by which some keys go -/
set_option maxRecDepth 100000 in
set_option maxHeartbeats 2000000 in
theorem checkPatch_gone (A : Option Addr) (n cap : Nat) (w : World) (hn : n ≤ 499) (hr : ∀ W, Below w.heap.size w W → Calls Tryz.prog 106 #[.slice A n cap] W fun e w' => e = .returned (.int .i64 0) ∧ Below W.heap.size W w') :
    Calls Tryz.prog 55 #[.agg #[.slice A n cap, .slice none 0 0, .bool false, .bool false, .bool false, .string ⟨#[]⟩, .string ⟨#[]⟩, .string ⟨#[]⟩, .slice none 0 0, .slice none 0 0, .slice none 0 0, .slice none 0 0, .string ⟨#[]⟩]] w fun e w' => e = .returned (.int .i64 0) ∧ Below w.heap.size w w' := by
  have HC := Lib.hid (show CA (w.alloc (.cells #[.slice A n cap, .slice none 0 0, .bool false, .bool false, .bool false, .string ⟨#[]⟩, .string ⟨#[]⟩, .string ⟨#[]⟩, .slice none 0 0, .slice none 0 0, .slice none 0 0, .slice none 0 0, .string ⟨#[]⟩] 86)) w.heap.size [.slice A n cap, .slice none 0 0, .bool false, .bool false, .bool false, .string ⟨#[]⟩, .string ⟨#[]⟩, .string ⟨#[]⟩, .slice none 0 0, .slice none 0 0, .slice none 0 0, .slice none 0 0, .string ⟨#[]⟩] from CA.made w _ _)
  have HB := Lib.hid (below_alloc1 w (.cells #[.slice A n cap, .slice none 0 0, .bool false, .bool false, .bool false, .string ⟨#[]⟩, .string ⟨#[]⟩, .string ⟨#[]⟩, .slice none 0 0, .slice none 0 0, .slice none 0 0, .slice none 0 0, .string ⟨#[]⟩] 86))
  have hr1 := hr _ HB.out
  have hd : decide ((499 : Int) < (n : Int)) = false := by simp; omega
  have a0 := HC.out.2 0 _ rfl
  have a1 := HC.out.2 1 _ rfl
  have a2 := HC.out.2 2 _ rfl
  have a3 := HC.out.2 3 _ rfl
  have a4 := HC.out.2 4 _ rfl
  have a5 := HC.out.2 5 _ rfl
  have a6 := HC.out.2 6 _ rfl
  have a7 := HC.out.2 7 _ rfl
  have a8 := HC.out.2 8 _ rfl
  have a9 := HC.out.2 9 _ rfl
  have a10 := HC.out.2 10 _ rfl
  have a11 := HC.out.2 11 _ rfl
  have a12 := HC.out.2 12 _ rfl
  clear hr
  go_enter Tryz.func55, Tryz.ntmps55
  go_wp2_with fail
  refine hr1.mono ?_
  rintro e w1 ⟨rfl, hb⟩
  have HC := Lib.hid (HC.out.below hb)
  have HB := Lib.hid (HB.out.trans (hb.mono HB.out.size))
  clear a0 a1 a2 a3 a4 a5 a6 a7 a8 a9 a10 a11 a12 hb
  have a0 := HC.out.2 0 _ rfl
  have a1 := HC.out.2 1 _ rfl
  have a2 := HC.out.2 2 _ rfl
  have a3 := HC.out.2 3 _ rfl
  have a4 := HC.out.2 4 _ rfl
  have a5 := HC.out.2 5 _ rfl
  have a6 := HC.out.2 6 _ rfl
  have a7 := HC.out.2 7 _ rfl
  have a8 := HC.out.2 8 _ rfl
  have a9 := HC.out.2 9 _ rfl
  have a10 := HC.out.2 10 _ rfl
  have a11 := HC.out.2 11 _ rfl
  have a12 := HC.out.2 12 _ rfl
  go_wp2_with fail
  refine (peersFault_nil ⟨#[]⟩ _).mono ?_
  rintro e w2 ⟨rfl, rfl⟩
  go_wp2_with fail
  refine (anyPeer_nil _ _).mono ?_
  rintro e w2 ⟨rfl, rfl⟩
  go_wp2_with fail
  refine (sameNode_zero _).mono ?_
  rintro e w2 ⟨rfl, hb⟩
  have HC := Lib.hid (HC.out.below hb)
  have HB := Lib.hid (HB.out.trans (hb.mono HB.out.size))
  clear a0 a1 a2 a3 a4 a5 a6 a7 a8 a9 a10 a11 a12 hb
  have a0 := HC.out.2 0 _ rfl
  have a1 := HC.out.2 1 _ rfl
  have a2 := HC.out.2 2 _ rfl
  have a3 := HC.out.2 3 _ rfl
  have a4 := HC.out.2 4 _ rfl
  have a5 := HC.out.2 5 _ rfl
  have a6 := HC.out.2 6 _ rfl
  have a7 := HC.out.2 7 _ rfl
  have a8 := HC.out.2 8 _ rfl
  have a9 := HC.out.2 9 _ rfl
  have a10 := HC.out.2 10 _ rfl
  have a11 := HC.out.2 11 _ rfl
  have a12 := HC.out.2 12 _ rfl
  go_wp2_with fail
  go_ret
  exact ⟨rfl, HB.out⟩

set_option maxRecDepth 100000 in
set_option maxHeartbeats 1000000 in
theorem rising_one (g cap : Nat) (w : World) (hc : w.cell? ⟨g, 0, none⟩ = some (.string ⟨#[97]⟩)) :
    Calls Tryz.prog 106 #[.slice (some ⟨g, 0, none⟩) 1 cap] w fun e w' => e = .returned (.int .i64 0) ∧ Below w.heap.size w w' := by
  have hk := isKey_any ⟨#[97]⟩ w (by decide)
  have hi : isKey ⟨#[97]⟩ = true := by kernel_rfl
  rw [hi] at hk
  clear hi
  go_enter Tryz.func106, Tryz.ntmps106
  go_wp2_with fail
  refine wp_loop_rounds 2 ?_
  rw [rounds_succ]
  go_wp2_with fail
  refine hk.mono ?_
  rintro e w1 ⟨rfl, rfl⟩
  go_wp2_with fail
  rw [rounds_succ]
  go_wp2_with fail
  go_ret
  exact ⟨rfl, Below.refl _ _⟩
end Go.Proofs.YtpbcbgoenoolfaaGreatDoor
