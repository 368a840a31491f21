/- The packages do something: ready returns true. -/
import Derived.Test.YtkbbmlkgaooaiaaGreatDoorKey
import Derived.Deep.AppendLies
import Derived.Test.YtkbbmlkgaooaiaaGreatDoorParse
import Derived.Test.YtkbbmlkgaooaiaaGreatDoorThru2
namespace Go.Proofs.YtkbbmlkgaooaiaaGreatDoor
open Go.RowKit Go.Hw

theorem belowN {B : Nat} {a w : World} (h : Below B a w) (n : Nat) : Below B a (w.drewN n) := ⟨h.os, h.tape, h.output, h.size, h.block⟩
def strA : ByteArray := ⟨#[97]⟩
def strT : ByteArray := ⟨#[116]⟩
theorem key_a : isKey ⟨#[97]⟩ = true := by decide
theorem key_t : isKey ⟨#[116]⟩ = true := by decide

set_option maxRecDepth 100000 in
set_option maxHeartbeats 400000 in
theorem rising_one (g : Nat) (w : World) (c : w.cell? ⟨g, 0, none⟩ = some (.string ⟨#[97]⟩)) :
    Calls Tryz.prog 89 #[.slice (some ⟨g, 0, none⟩) 1 1] w fun e w' => e = .returned (.int .i64 0) ∧ w = w' := by
  go_enter Tryz.func89, Tryz.ntmps89
  go_wp2_with fail
  refine wp_loop_rounds 2 ?_
  rw [rounds_succ]
  go_wp2_with fail
  refine (isKey_any _ _ (by decide)).mono ?_
  rintro e w' ⟨rfl, rfl⟩
  rw [key_a]
  go_wp2_with fail
  rw [rounds_succ]
  go_wp2_with fail
  go_ret
  exact ⟨rfl, rfl⟩
theorem contains_one (g : Nat) (w : World) (c : w.cell? ⟨g, 0, none⟩ = some (.string ⟨#[97]⟩)) :
    Calls Tryz.prog 73 #[.slice (some ⟨g, 0, none⟩) 1 1, .string ⟨#[97]⟩] w fun e w' => e = .returned (.bool true) ∧ w = w' :=
  (Tryz.slices_Contains_string g 0 1 1 [⟨#[97]⟩] ⟨#[97]⟩ w (by simp) (by decide) (fun j hj => by
    have : j = 0 := by simp at hj; omega
    subst this
    exact c)).mono fun e w' ⟨h1, h2⟩ => ⟨h1.trans (ret_bool (by decide)), h2.symm⟩

/-- The directory of ready(). -/
def dirV (gU gO : Nat) : Value := .agg #[.slice (some ⟨gU, 0, none⟩) 1 1, .slice (some ⟨gO, 0, none⟩) 1 1, .int .i64 1, .bool false]

set_option maxRecDepth 100000 in
set_option maxHeartbeats 1000000 in
theorem checkDir (gU gO gT : Nat) (w : World) (hU : gU < w.heap.size) (hO : gO < w.heap.size) (hT : gT < w.heap.size) (cU : w.cell? ⟨gU, 0, none⟩ = some (.string ⟨#[97]⟩)) (cO0 : w.cell? ⟨gO, 0, none⟩ = some (.string ⟨#[116]⟩))
    (cO1 : w.cell? ⟨gO, 1, none⟩ = some (.slice (some ⟨gT, 0, none⟩) 1 1)) (cT : w.cell? ⟨gT, 0, none⟩ = some (.string ⟨#[97]⟩)) :
    Calls Tryz.prog 71 #[.agg #[.slice (some ⟨gU, 0, none⟩) 1 1, .slice (some ⟨gO, 0, none⟩) 1 1, .int .i64 1, .bool false]] w fun e w' => e = .returned (.int .i64 0) ∧ Below w.heap.size w w' := by
  go_enter Tryz.func71, Tryz.ntmps71
  go_wp2_with fail
  refine (rising_one gU _ (by simpa [World.cell?_alloc_lt, hU] using cU)).mono ?_
  rintro e w1 ⟨rfl, rfl⟩
  go_wp2_with fail
  refine wp_loop_rounds 2 ?_
  rw [rounds_succ]
  go_wp2_with fail
  refine (isKey_any _ _ (by decide)).mono ?_
  rintro e w' ⟨rfl, rfl⟩
  rw [key_t]
  go_wp2_with fail
  go_quiet (fail)
  go_wp2_with fail
  refine wp_loop_rounds 2 ?_
  rw [rounds_succ]
  go_wp2_with fail
  refine (contains_one gU _ (by go_simp)).mono ?_
  rintro e w' ⟨rfl, rfl⟩
  go_wp2_with fail
  rw [rounds_succ]
  go_wp2_with fail
  rw [rounds_succ]
  go_wp2_with fail
  refine (outside_any _ _ _ _).mono ?_
  rintro e w' ⟨rfl, rfl⟩
  go_wp2_with fail
  go_ret
  exact ⟨rfl, belowN (((Below.refl _ _).alloc (Nat.le_refl _) _).alloc (by simp) _) _⟩

set_option maxRecDepth 100000 in
set_option maxHeartbeats 1000000 in
theorem ownsIdx (gO gT gF : Nat) (w : World) (_hO : gO < w.heap.size) (hF : gF < w.heap.size) (cO0 : w.cell? ⟨gO, 0, none⟩ = some (.string ⟨#[116]⟩)) (cO1 : w.cell? ⟨gO, 1, none⟩ = some (.slice (some ⟨gT, 0, none⟩) 1 1)) (cF : w.cell? ⟨gF, 0, none⟩ = some (.string ⟨#[116]⟩)) :
    Calls Tryz.prog 90 #[.slice (some ⟨gO, 0, none⟩) 1 1, .func (.func 91) #[] #[.pointer (some ⟨gF, 0, none⟩)]] w fun e w' => e = .returned (.int .i64 0) ∧ Below w.heap.size w w' := by
  go_enter Tryz.func90, Tryz.ntmps90
  go_wp2_with fail
  refine wp_loop_rounds 1 ?_
  rw [rounds_succ]
  go_wp2
  go_ret
  exact ⟨rfl, (Below.refl _ _).alloc (Nat.le_refl _) _⟩

set_option maxRecDepth 100000 in
set_option maxHeartbeats 1000000 in
theorem owns_at (gU gO gT : Nat) (w : World) (_hU : gU < w.heap.size) (hO : gO < w.heap.size) (hT : gT < w.heap.size) (_cU : w.cell? ⟨gU, 0, none⟩ = some (.string ⟨#[97]⟩)) (cO0 : w.cell? ⟨gO, 0, none⟩ = some (.string ⟨#[116]⟩))
    (cO1 : w.cell? ⟨gO, 1, none⟩ = some (.slice (some ⟨gT, 0, none⟩) 1 1)) (cT : w.cell? ⟨gT, 0, none⟩ = some (.string ⟨#[97]⟩)) :
    Calls Tryz.prog 72 #[.agg #[.slice (some ⟨gU, 0, none⟩) 1 1, .slice (some ⟨gO, 0, none⟩) 1 1, .int .i64 1, .bool false], .string ⟨#[97]⟩, .string ⟨#[116]⟩] w fun e w' => e = .returned (.tuple #[.bool true, .bool true]) ∧ Below w.heap.size w w' := by
  go_enter Tryz.func72, Tryz.ntmps72
  go_wp2_with fail
  refine (ownsIdx gO gT _ _ (by simp; omega) (by simp) (by go_simp) (by go_simp) (by go_simp)).mono ?_
  rintro e w1 ⟨rfl, hb⟩
  have hs := hb.size
  have hU1 := hb.cell (p := ⟨w.heap.size, 1, none⟩) (by simp; omega)
  have c1 : w1.cell? ⟨w.heap.size, 1, none⟩ = some (.slice (some ⟨gO, 0, none⟩) 1 1) := hU1.trans (by go_simp)
  have c2 : w1.cell? ⟨gO, 1, none⟩ = some (.slice (some ⟨gT, 0, none⟩) 1 1) := (hb.cell (by simp; omega)).trans (by go_simp)
  have c3 : w1.cell? ⟨gT, 0, none⟩ = some (.string ⟨#[97]⟩) := (hb.cell (by simp; omega)).trans (by go_simp)
  clear hU1
  go_wp2_with fail
  refine (contains_one gT _ c3).mono ?_
  rintro e w2 ⟨rfl, rfl⟩
  go_wp2_with fail
  go_ret2
  exact ⟨rfl, (((Below.refl _ _).alloc (Nat.le_refl _) _).alloc (by simp) _).trans (hb.mono (by simp; omega))⟩

set_option maxRecDepth 100000 in
set_option maxHeartbeats 1000000 in
theorem owns_ready (gU gO gT : Nat) (w : World) (hU : gU < w.heap.size) (hO : gO < w.heap.size) (hT : gT < w.heap.size) (cU : w.cell? ⟨gU, 0, none⟩ = some (.string ⟨#[97]⟩)) (cO0 : w.cell? ⟨gO, 0, none⟩ = some (.string ⟨#[116]⟩))
    (cO1 : w.cell? ⟨gO, 1, none⟩ = some (.slice (some ⟨gT, 0, none⟩) 1 1)) (cT : w.cell? ⟨gT, 0, none⟩ = some (.string ⟨#[97]⟩)) :
    Calls Tryz.prog 39 #[.agg #[.slice (some ⟨gU, 0, none⟩) 1 1, .slice (some ⟨gO, 0, none⟩) 1 1, .int .i64 1, .bool false], .string ⟨#[97]⟩, .string ⟨#[116]⟩] w fun e w' => e = .returned (.tuple #[.bool true, .int .i64 0]) ∧ Below w.heap.size w w' := by
  go_enter Tryz.func39, Tryz.ntmps39
  go_wp2_with fail
  refine (checkDir gU gO gT _ (by simp; omega) (by simp; omega) (by simp; omega) (by go_simp) (by go_simp) (by go_simp) (by go_simp)).mono ?_
  rintro e w1 ⟨rfl, hb⟩
  have hs := hb.size
  simp at hs
  have e0 : w1.cell? ⟨w.heap.size, 0, none⟩ = some (.slice (some ⟨gU, 0, none⟩) 1 1) := (hb.cell (by simp)).trans (by go_simp)
  have e1 : w1.cell? ⟨w.heap.size, 1, none⟩ = some (.slice (some ⟨gO, 0, none⟩) 1 1) := (hb.cell (by simp)).trans (by go_simp)
  have e2 : w1.cell? ⟨w.heap.size, 2, none⟩ = some (.int .i64 1) := (hb.cell (by simp)).trans (by go_simp)
  have e3 : w1.cell? ⟨w.heap.size, 3, none⟩ = some (.bool false) := (hb.cell (by simp)).trans (by go_simp)
  have d0 : w1.cell? ⟨gU, 0, none⟩ = some (.string ⟨#[97]⟩) := (hb.cell (by simp; omega)).trans (by go_simp)
  have d1 : w1.cell? ⟨gO, 0, none⟩ = some (.string ⟨#[116]⟩) := (hb.cell (by simp; omega)).trans (by go_simp)
  have d2 : w1.cell? ⟨gO, 1, none⟩ = some (.slice (some ⟨gT, 0, none⟩) 1 1) := (hb.cell (by simp; omega)).trans (by go_simp)
  have d3 : w1.cell? ⟨gT, 0, none⟩ = some (.string ⟨#[97]⟩) := (hb.cell (by simp; omega)).trans (by go_simp)
  clear cU cO0 cO1 cT
  go_wp2_with fail
  refine (owns_at gU gO gT _ (by omega) (by omega) (by omega) d0 d1 d2 d3).mono ?_
  rintro e w2 ⟨rfl, hb2⟩
  have f0 : w2.cell? ⟨w.heap.size, 0, none⟩ = some (.slice (some ⟨gU, 0, none⟩) 1 1) := (hb2.cell (by simp; omega)).trans e0
  have f1 : w2.cell? ⟨gU, 0, none⟩ = some (.string ⟨#[97]⟩) := (hb2.cell (by simp; omega)).trans d0
  clear e0 e1 e2 e3 d0 d1 d2 d3
  go_wp2_with fail
  refine (contains_one gU _ f1).mono ?_
  rintro e w3 ⟨rfl, rfl⟩
  go_wp2_with fail
  go_ret2
  exact ⟨rfl, ((Below.refl _ _).alloc (Nat.le_refl _) _).trans ((hb.mono (by simp)).trans (hb2.mono (by omega)))⟩

theorem Tryz.infoByte : (Tryz.prog.info? 5).map (fun i => (i.zero, i.size, i.bytes)) = some (some (.int .u8 0), 1, 1) := by kernel_rfl

set_option maxRecDepth 100000 in
set_option maxHeartbeats 1000000 in
theorem label_ready (w : World) :
    Calls Tryz.prog 41 #[.string ⟨#[65, 32, 98]⟩] w fun e w' => e = .returned (.string ⟨#[97, 45, 98]⟩) ∧ Below w.heap.size w w' := by
  obtain ⟨i0, hi0, hz0, hz1, hz2⟩ := info_parts Tryz.infoByte
  have b0 : ((⟨#[65, 32, 98]⟩ : ByteArray)[0]).toNat = 65 := rfl
  have b1 : ((⟨#[65, 32, 98]⟩ : ByteArray)[1]).toNat = 32 := rfl
  have b2 : ((⟨#[65, 32, 98]⟩ : ByteArray)[2]).toNat = 98 := rfl
  go_enter Tryz.func41, Tryz.ntmps41
  go_wp2_with fail
  refine wp_loop_rounds 4 ?_
  rw [rounds_succ]
  go_wp2_with (first | (at_builtin; refine wpList_append_lies _ rfl (.tmp 26) (.tmp 28) 144 rfl w.heap.size 5 i0 (.int .u8 0) 1 1 Tryz.underlying144 hi0 hz0 hz1 hz2 rfl (by decide) (.slice none 0 0) 0 [] rfl (World.ownsRow_nil _ _ _ _) ⟨w.heap.size, 0, none⟩ 1 1 [.int .u8 97] rfl rfl ?c1 ?c2 (by omega) ?c3 ?c4 ?c5 _ rfl ?_) | (go_at_call 78; go_in))
  case c1 => exact cell_one_new _ _ _
  case c2 => simp [Value.oneCell']
  case c3 => decide
  case c4 => decide
  case c5 => simp
  intro g1 k1 w1 ho1 hg1 hat1 hl1
  have hb1 : Below w.heap.size w w1 := ((Below.refl _ _).alloc (Nat.le_refl _) _).grown hg1 (by simp) (fun j hj => by simp [Value.ownBlock] at hj)
  have hc1 : w1.cell? ⟨g1, 0, none⟩ = some (.int .u8 97) := by
    have := ho1.cells (g := g1) rfl 0 _ rfl
    simpa [Addr.add] using this
  have hs1 := hb1.size
  clear hg1 hat1
  go_wp2_with fail
  rw [rounds_succ]
  go_wp2_with (first | (at_builtin; refine wpList_append_lies _ rfl (.tmp 43) (.tmp 44) 144 rfl w.heap.size 5 i0 (.int .u8 0) 1 1 Tryz.underlying144 hi0 hz0 hz1 hz2 rfl (by decide) (.slice (some ⟨g1, 0, none⟩) 1 k1) 1 [.int .u8 97] rfl (ho1.alloc _) ⟨w1.heap.size, 0, none⟩ 1 1 [.int .u8 45] rfl rfl ?d1 ?d2 (by omega) ?d3 ?d4 ?d5 _ rfl ?_) | (go_at_call 78; go_in))
  case d1 => exact cell_one_new _ _ _
  case d2 => simp [Value.oneCell']
  case d3 => decide
  case d4 => decide
  case d5 => simp; omega
  intro g2 k2 w2 ho2 hg2 hat2 hl2
  have hb2 : Below w.heap.size w w2 := (hb1.alloc hb1.size _).grown hg2 (by simp; omega) (fun j hj => (ho1.lt j hj).1)
  have hc20 : w2.cell? ⟨g2, 0, none⟩ = some (.int .u8 97) := by
    have := ho2.cells (g := g2) rfl 0 _ rfl
    simpa [Addr.add] using this
  have hc21 : w2.cell? ⟨g2, 1, none⟩ = some (.int .u8 45) := by
    have := ho2.cells (g := g2) rfl 1 _ rfl
    simpa [Addr.add] using this
  have hs2 := hb2.size
  clear hg2 hat2 hc1 ho1 hb1 hs1 hl1
  go_wp2_with fail
  rw [rounds_succ]
  go_wp2_with (first | (at_builtin; refine wpList_append_lies _ rfl (.tmp 26) (.tmp 28) 144 rfl w.heap.size 5 i0 (.int .u8 0) 1 1 Tryz.underlying144 hi0 hz0 hz1 hz2 rfl (by decide) (.slice (some ⟨g2, 0, none⟩) 2 k2) 2 [.int .u8 97, .int .u8 45] rfl (ho2.alloc _) ⟨w2.heap.size, 0, none⟩ 1 1 [.int .u8 98] rfl rfl ?e1 ?e2 (by omega) ?e3 ?e4 ?e5 _ rfl ?_) | (go_at_call 78; go_in))
  case e1 => exact cell_one_new _ _ _
  case e2 => simp [Value.oneCell']
  case e3 => decide
  case e4 => decide
  case e5 => simp; omega
  intro g3 k3 w3 ho3 hg3 hat3 hl3
  have hb3 : Below w.heap.size w w3 := (hb2.alloc hb2.size _).grown hg3 (by simp; omega) (fun j hj => (ho2.lt j hj).1)
  have hc30 : w3.cell? ⟨g3, 0, none⟩ = some (.int .u8 97) := by
    have := ho3.cells (g := g3) rfl 0 _ rfl
    simpa [Addr.add] using this
  have hc31 : w3.cell? ⟨g3, 1, none⟩ = some (.int .u8 45) := by
    have := ho3.cells (g := g3) rfl 1 _ rfl
    simpa [Addr.add] using this
  have hc32 : w3.cell? ⟨g3, 2, none⟩ = some (.int .u8 98) := by
    have := ho3.cells (g := g3) rfl 2 _ rfl
    simpa [Addr.add] using this
  have hs3 := hb3.size
  have hk3 : 3 ≤ k3 := by
    rcases ho3.2 with ⟨h, _⟩ | ⟨g, cap, cur, h1, h2, h3, h4, _⟩
    · cases h
    · injection h1 with _ _ h1
      omega
  clear hg3 hat3 hc20 hc21 ho2 hb2 hs2 hl2
  go_wp2_with fail
  rw [rounds_succ]
  have hcv : (convert 144 9 (.slice (some ⟨g3, 0, none⟩) 3 k3)).run Tryz.prog w3 = .ok (.string ⟨#[97, 45, 98]⟩) w3 := run_convert_bytes_back (P := Tryz.prog) w3 144 9 5 ⟨g3, 0, none⟩ k3 [97, 45, 98] Tryz.underlying144 Tryz.underlying5 Tryz.underlying9 (by
    intro j hj
    have : j = 0 ∨ j = 1 ∨ j = 2 := by simp at hj; omega
    rcases this with rfl | rfl | rfl
    · exact hc30
    · exact hc31
    · exact hc32)
  have hmin : (min (3 : Int) 63).toNat = 3 := by decide
  go_wp2_with fail
  refine (Tryz.strings_Trim_one ⟨#[97, 45, 98]⟩ 45 (by decide) _ (by decide)).mono ?_
  rintro e w4 ⟨rfl, hw4⟩
  have htr : (⟨(Lib.trimB (⟨#[97, 45, 98]⟩ : ByteArray).data.toList 45).toArray⟩ : ByteArray) = ⟨#[97, 45, 98]⟩ := by decide
  rw [htr]
  clear htr
  have hb4 : Below w.heap.size w w4 := by
    rcases hw4 with rfl | rfl
    · exact hb3
    · exact hb3.drew
  clear hw4
  go_wp2_with fail
  go_ret
  exact ⟨rfl, hb4⟩

theorem one_fault : linksFault (oneLink.map lkOf) = 0 := by
  have hg : strGeq ⟨#[97]⟩ ⟨#[98]⟩ = false := by unfold strGeq; rw [ByteArray.toList_eq, ByteArray.toList_eq]; rfl
  have k1 : isKey ⟨#[97]⟩ = true := by decide
  have k2 : isKey ⟨#[98]⟩ = true := by decide
  have hc : linkCode (oneLink.map lkOf) 0 = 0 := by
    show (if isKey ⟨#[97]⟩ = false then (5 : Int) else if isKey ⟨#[98]⟩ = false then 5 else if strGeq ⟨#[97]⟩ ⟨#[98]⟩ then 7 else if ¬ (0 ≤ (3 : Int) ∧ (3 : Int) ≤ 1000000) then 1 else _) = 0
    rw [k1, k2, hg]; simp
  show (if 500 < 1 then (2 : Int) else ((([0] : List Nat).map (linkCode (oneLink.map lkOf))).find? (fun c => decide (c ≠ 0))).getD 0) = 0
  simp [hc]

set_option maxRecDepth 100000 in
set_option maxHeartbeats 1000000 in
theorem ready_true (w : World) :
    Calls Tryz.prog 17 #[] w fun e w' => e = .returned (.bool true) ∧ Below w.heap.size w w' := by
  go_enter Tryz.func17, Tryz.ntmps17
  go_wp2_with fail
  generalize hW : World.alloc (World.alloc (World.alloc _ _) _) _ = W
  have hB : Below w.heap.size w W := by rw [← hW]; exact (three _ _ _ _).2.2.2
  have h0 : ∃ t l, W.heap[w.heap.size]? = some (.cells #[.string ⟨#[97]⟩] t l) := by rw [← hW]; exact ⟨_, _, (three _ _ _ _).1⟩
  have h1 : ∃ t l, W.heap[w.heap.size + 1]? = some (.cells #[.string ⟨#[97]⟩] t l) := by rw [← hW]; exact ⟨_, _, (three _ _ _ _).2.1⟩
  have h2 : ∃ t l, W.heap[w.heap.size + 1 + 1]? = some (.cells #[.string ⟨#[116]⟩, .slice (some ⟨w.heap.size + 1, 0, none⟩) 1 1] t l) := by rw [← hW]; exact ⟨_, _, (three _ _ _ _).2.2.1⟩
  clear hW
  obtain ⟨_, _, h0⟩ := h0
  obtain ⟨_, _, h1⟩ := h1
  obtain ⟨_, _, h2⟩ := h2
  have lt : w.heap.size + 1 + 1 < W.heap.size := Nat.lt_of_not_le fun h => by rw [Array.getElem?_eq_none h] at h2; cases h2
  refine Calls.mono (owns_ready w.heap.size (w.heap.size + 1 + 1) (w.heap.size + 1) W (by omega) lt (by omega) (cell_of h0 0) (cell_of h2 0) (cell_of h2 1) (cell_of h1 0)) ?_
  rintro _ V ⟨rfl, hV⟩
  have HB := Lib.hid (hB.trans (hV.mono (by omega)))
  clear hB h0 h1 h2 lt hV
  go_wp2_with fail
  generalize hW : World.alloc _ _ = W2
  have hB2 : Below V.heap.size V W2 := by rw [← hW]; exact (Below.refl _ _).alloc (Nat.le_refl _) _
  have h0 : ∃ t l, W2.heap[V.heap.size]? = some (.cells #[.string ⟨#[97]⟩, .string ⟨#[98]⟩, .int .i64 3] t l) := by rw [← hW]; exact ⟨_, _, heap_new _ _⟩
  clear hW
  obtain ⟨_, _, h0⟩ := h0
  have lt : V.heap.size < W2.heap.size := Nat.lt_of_not_le fun h => by rw [Array.getElem?_eq_none h] at h0; cases h0
  have hL : LksAt W2 W2.heap.size (some ⟨V.heap.size, 0, none⟩) (oneLink.map lkOf) := by
    intro i hi
    have : i = 0 := by simp [oneLink] at hi; omega
    subst this
    exact ⟨_, _, rfl, lt, cell_of h0 0, cell_of h0 1, cell_of h0 2⟩
  have hs : ∀ i, ((oneLink.map lkOf).getD i noLk).a.size ≤ maxLen ∧ ((oneLink.map lkOf).getD i noLk).b.size ≤ maxLen := by
    intro i
    rcases i with _ | i
    · exact ⟨by decide, by decide⟩
    · exact ⟨show noLk.a.size ≤ maxLen by decide, show noLk.b.size ≤ maxLen by decide⟩
  have hf : linksFault (oneLink.map lkOf) = 0 := one_fault
  refine Calls.mono (throughX_any (some ⟨V.heap.size, 0, none⟩) 1 oneLink ⟨#[98]⟩ ⟨#[97]⟩ W2 hL hf (by decide) (by decide) (by decide) (by decide) hs) ?_
  rintro _ V2 ⟨hb, ⟨rfl, hno⟩ | ⟨v, ts, n, rfl, how, htr, hsh, hle⟩⟩
  · exact absurd one_ab (hno _ _)
  obtain ⟨rfl, hlen⟩ := one_len hsh htr
  rw [hlen] at how
  have HB2 := Lib.hid (HB.out.trans ((hB2.mono (by have := HB.out.size; omega)).trans (hb.mono (by have := HB.out.size; omega))))
  clear hb htr hsh hle hL hs hf h0 lt hB2 HB
  go_wp2_with fail
  refine Calls.mono (parse_name V2) ?_
  rintro _ V3 ⟨rfl, h3⟩
  simp only [condName, condCells]
  go_upto_region 4 with (fail)
  generalize hW : World.alloc _ _ = W4
  have h4 : Below V3.heap.size V3 W4 := by rw [← hW]; exact (Below.refl _ _).alloc (Nat.le_refl _) _
  have h5 : ∃ t l, W4.heap[V3.heap.size]? = some (.cells condCells t l) := by rw [← hW]; exact ⟨_, _, heap_new _ _⟩
  clear hW
  obtain ⟨_, _, h5⟩ := h5
  have lt4 : V3.heap.size < W4.heap.size := Nat.lt_of_not_le fun h => by rw [Array.getElem?_eq_none h] at h5; cases h5
  have hv : ∃ g cap, v = .slice (some ⟨g, 0, none⟩) 2 cap := by
    obtain ⟨-, ⟨-, h⟩ | ⟨g, cap, cur, hv, -⟩⟩ := how
    · cases h
    · exact ⟨g, cap, hv⟩
  obtain ⟨gv, cv, rfl⟩ := hv
  have c1 := cell_of h5 1
  simp only [condCells, List.getElem?_toArray, List.getElem?_cons_zero, List.getElem?_cons_succ] at c1
  have HB4 := Lib.hid (HB2.out.trans ((h3.mono (by have := HB2.out.size; omega)).trans (h4.mono (by have := HB2.out.size; have := h3.size; omega))))
  have LT := Lib.hid lt4
  clear how h5 lt4 HB2 h3 h4 hlen
  go_wp2_with fail
  refine Calls.mono (label_ready W4) ?_
  rintro _ V5 ⟨rfl, h5⟩
  have c2 := (h5.cell (p := ⟨V3.heap.size, 1, none⟩) LT.out).trans c1
  have HB5 := Lib.hid (HB4.out.trans (h5.mono HB4.out.size))
  clear c1 HB4 LT h5
  have s1 : ((⟨#[97, 45, 98]⟩ : ByteArray).toList == (⟨#[97, 45, 98]⟩ : ByteArray).toList) = true := by simp
  have s2 : ((⟨#[97]⟩ : ByteArray).toList == (⟨#[97]⟩ : ByteArray).toList) = true := by simp
  go_wp2_with fail
  go_ret
  exact ⟨rfl, HB5.out⟩
end Go.Proofs.YtkbbmlkgaooaiaaGreatDoor
