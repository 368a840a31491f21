/- Packets as bytes: the sum of a part (printed by gen_pxf.py). -/
import Derived.Test.YtfakfhbcpldeoaaGreatDoorPxE
namespace Go.Proofs.YtfakfhbcpldeoaaGreatDoor
open Go.RowKit Go.Hw

set_option maxRecDepth 100000 in
set_option maxHeartbeats 4000000 in
theorem sum6 (pr sh sl th tl fp tp hops : Int) (syn fin rst has : Bool) (seq ack : Int) (reply : Bool) (id_ : Int) (pA : Option Addr) (pn pc : Nat) (q : Option Addr) (qn qc : Nat) (part : List UInt8) (w : World) (hp : bAt w q part) (hl : part.length = qn) (hn : q = none → qc = 0) (hs : qn ≤ 10000)
    (hpr : 0 ≤ pr ∧ pr ≤ 255) (h1 : 0 ≤ sh) (h2 : 0 ≤ sl) (h3 : 0 ≤ th) (h4 : 0 ≤ tl) (p : Pk) (hpe : p = ⟨⟨pr, true, sh, sl, true, th, tl, fp, tp⟩, hops, syn, fin, rst, has, seq, ack, reply, id_, pA, pn, pc⟩) :
    Calls Tryz.prog 24 #[.agg #[.bool true, .int .u64 sh, .int .u64 sl, .bool true, .int .u64 th, .int .u64 tl, .int .i64 hops, .int .i64 pr, .int .i64 fp, .int .i64 tp, .bool syn, .bool fin, .bool rst, .bool has, .int .i64 seq, .int .i64 ack, .bool reply, .int .i64 id_, .slice pA pn pc], .slice q qn qc] w
      fun e w' => e = .returned (.int .i64 (partSumP p part)) ∧ Below w.heap.size w w' := by
  have h41 := al1 w (.cells (pkA p) 31)
  have HBwA := Lib.hid (bl_alloc w (.cells (pkA p) 31))
  have hsz1 : (w.alloc (.cells (pkA p) 31)).heap.size = w.heap.size + 1 := by simp
  have hp1 := hp.below HBwA.out
  have HPE := Lib.hid hpe
  rw [hpe] at h41 HBwA hsz1 hp1
  clear hpe
  go_enter Tryz.func24, Tryz.ntmps24
  go_upto_region 2 with (fail)
  generalize hW : World.alloc w _ = W0
  have h4' : W0.heap[w.heap.size]? = some (.cells (pkA ⟨⟨pr, true, sh, sl, true, th, tl, fp, tp⟩, hops, syn, fin, rst, has, seq, ack, reply, id_, pA, pn, pc⟩) 31 (0, 0)) := by rw [← hW]; exact h41
  have HBw : Hid (Below w.heap.size w W0) := Lib.hid (by rw [← hW]; exact HBwA.out)
  have HP : Hid (bAt W0 q part) := Lib.hid (by rw [← hW]; exact hp1)
  clear hW h41 hsz1 hp1 hp HBwA
  have H4 := Lib.hid h4'
  have HO0 : Hid (bOwn W0 W0.heap.size none 0 0 []) := Lib.hid (bOwn.nil _ _)
  have HG0 : Hid (Below W0.heap.size W0 W0) := Lib.hid (Below.refl _ _)
  have hlB : w.heap.size < W0.heap.size := lt_of_block h4'
  have b0 : W0.cell? ⟨w.heap.size, 0, none⟩ = some (.bool true) := cell_of h4' 0
  have b7 : W0.cell? ⟨w.heap.size, 7, none⟩ = some (.int .i64 pr) := cell_of h4' 7
  clear h4' 
  go_upto_region 3 with (fail)
  have c0 : W0.cell? ⟨w.heap.size, 0, none⟩ = some (.bool true) := (HG0.out.cell (p := ⟨w.heap.size, 0, none⟩) (lt_of_block H4.out)).trans (cell_of H4.out 0)
  have c1 : W0.cell? ⟨w.heap.size, 1, none⟩ = some (.int .u64 sh) := (HG0.out.cell (p := ⟨w.heap.size, 1, none⟩) (lt_of_block H4.out)).trans (cell_of H4.out 1)
  have c2 : W0.cell? ⟨w.heap.size, 2, none⟩ = some (.int .u64 sl) := (HG0.out.cell (p := ⟨w.heap.size, 2, none⟩) (lt_of_block H4.out)).trans (cell_of H4.out 2)
  have c3 : W0.cell? ⟨w.heap.size, 3, none⟩ = some (.bool true) := (HG0.out.cell (p := ⟨w.heap.size, 3, none⟩) (lt_of_block H4.out)).trans (cell_of H4.out 3)
  have c4 : W0.cell? ⟨w.heap.size, 4, none⟩ = some (.int .u64 th) := (HG0.out.cell (p := ⟨w.heap.size, 4, none⟩) (lt_of_block H4.out)).trans (cell_of H4.out 4)
  have c5 : W0.cell? ⟨w.heap.size, 5, none⟩ = some (.int .u64 tl) := (HG0.out.cell (p := ⟨w.heap.size, 5, none⟩) (lt_of_block H4.out)).trans (cell_of H4.out 5)
  have sw_qn : IntKind.u64.wrap (qn : Int) = (qn : Int) := IntWalk.u64_in _ (by omega)
  have hbw : W0.heap.size ≤ W0.heap.size := HG0.out.size
  have HD0 : Hid (∀ W' : World, Below W0.heap.size W0 W' → bOwn W' W0.heap.size (none) 0 0 _ ∧ Below W0.heap.size W0 W') := Lib.hid (fun W' hb => ⟨HO0.out.bl hb, HG0.out.trans (hb.mono hbw)⟩)
  have HK : Hid (∀ W' : World, Below W0.heap.size W0 W' → W'.cell? ⟨w.heap.size, 0, none⟩ = some (.bool true) ∧ W'.cell? ⟨w.heap.size, 1, none⟩ = some (.int .u64 sh) ∧ W'.cell? ⟨w.heap.size, 2, none⟩ = some (.int .u64 sl) ∧ W'.cell? ⟨w.heap.size, 3, none⟩ = some (.bool true) ∧ W'.cell? ⟨w.heap.size, 4, none⟩ = some (.int .u64 th) ∧ W'.cell? ⟨w.heap.size, 5, none⟩ = some (.int .u64 tl)) := Lib.hid (fun W' hb => ⟨(hb.cell (p := ⟨w.heap.size, 0, none⟩) (lt_of_block H4.out)).trans (cell_of H4.out 0), (hb.cell (p := ⟨w.heap.size, 1, none⟩) (lt_of_block H4.out)).trans (cell_of H4.out 1), (hb.cell (p := ⟨w.heap.size, 2, none⟩) (lt_of_block H4.out)).trans (cell_of H4.out 2), (hb.cell (p := ⟨w.heap.size, 3, none⟩) (lt_of_block H4.out)).trans (cell_of H4.out 3), (hb.cell (p := ⟨w.heap.size, 4, none⟩) (lt_of_block H4.out)).trans (cell_of H4.out 4), (hb.cell (p := ⟨w.heap.size, 5, none⟩) (lt_of_block H4.out)).trans (cell_of H4.out 5)⟩)
  go_region_held3 (fun w' => w'.cell? ⟨w.heap.size, 0, none⟩ = some (.bool true) ∧ w'.cell? ⟨w.heap.size, 1, none⟩ = some (.int .u64 sh) ∧ w'.cell? ⟨w.heap.size, 2, none⟩ = some (.int .u64 sl) ∧ w'.cell? ⟨w.heap.size, 3, none⟩ = some (.bool true) ∧ w'.cell? ⟨w.heap.size, 4, none⟩ = some (.int .u64 th) ∧ w'.cell? ⟨w.heap.size, 5, none⟩ = some (.int .u64 tl)) ((repeat' apply And.intro) <;> (repeat (first | with_reducible assumption | with_reducible refine keepD ?_ | with_reducible refine keepA ?_)))
    (first
      | (have mk3 := mark2; go_at_call 37; refine (put_any W0.heap.size qn 4 (by omega) X2 32 xc2 _ _ (HD2.out _ (by first | exact Below.refl _ _ | exact (Below.refl _ _).drew | exact bl_alloc _ _ | exact ((Below.refl _ _).drew).alloc (Nat.le_refl _) _)).1 ((HD2.out _ (by first | exact Below.refl _ _ | exact (Below.refl _ _).drew | exact bl_alloc _ _ | exact ((Below.refl _ _).drew).alloc (Nat.le_refl _) _)).2.size) (by omega)).mono ?_; rintro e W1 ⟨A1, cap1, rfl, ho3, hg3⟩; have mark3 : True := trivial; have hb3 : Below W0.heap.size W0 W1 := ((HD2.out _ (by first | exact Below.refl _ _ | exact (Below.refl _ _).drew | exact bl_alloc _ _ | exact ((Below.refl _ _).drew).alloc (Nat.le_refl _) _)).2).trans (hg3.below (HD2.out _ (by first | exact Below.refl _ _ | exact (Below.refl _ _).drew | exact bl_alloc _ _ | exact ((Below.refl _ _).drew).alloc (Nat.le_refl _) _)).1 (HD2.out _ (by first | exact Below.refl _ _ | exact (Below.refl _ _).drew | exact bl_alloc _ _ | exact ((Below.refl _ _).drew).alloc (Nat.le_refl _) _)).2.size); have HD3 : Hid (∀ W' : World, Below W1.heap.size W1 W' → bOwn W' W0.heap.size A1 36 cap1 _ ∧ Below W0.heap.size W0 W') := Lib.hid (fun W' hb => ⟨ho3.bl hb, hb3.trans (hb.mono hb3.size)⟩); have hk := HK.out W1 hb3; have d0 : W1.cell? ⟨w.heap.size, 0, none⟩ = some (.bool true) := hk.1; have d1 : W1.cell? ⟨w.heap.size, 1, none⟩ = some (.int .u64 sh) := hk.2.1; have d2 : W1.cell? ⟨w.heap.size, 2, none⟩ = some (.int .u64 sl) := hk.2.2.1; have d3 : W1.cell? ⟨w.heap.size, 3, none⟩ = some (.bool true) := hk.2.2.2.1; have d4 : W1.cell? ⟨w.heap.size, 4, none⟩ = some (.int .u64 th) := hk.2.2.2.2.1; have d5 : W1.cell? ⟨w.heap.size, 5, none⟩ = some (.int .u64 tl) := hk.2.2.2.2.2)
      | (have mk2 := mark1; go_at_call 39; refine (putAddr16 W0.heap.size th tl h3 h4 X1 16 xc1 _ _ (HD1.out _ (by first | exact Below.refl _ _ | exact (Below.refl _ _).drew | exact bl_alloc _ _ | exact ((Below.refl _ _).drew).alloc (Nat.le_refl _) _)).1 ((HD1.out _ (by first | exact Below.refl _ _ | exact (Below.refl _ _).drew | exact bl_alloc _ _ | exact ((Below.refl _ _).drew).alloc (Nat.le_refl _) _)).2.size) (by omega)).mono ?_; rintro e V2 ⟨X2, xc2, rfl, ho2, hg2⟩; have mark2 : True := trivial; have hb2 : Below W0.heap.size W0 V2 := ((HD1.out _ (by first | exact Below.refl _ _ | exact (Below.refl _ _).drew | exact bl_alloc _ _ | exact ((Below.refl _ _).drew).alloc (Nat.le_refl _) _)).2).trans (hg2.below (HD1.out _ (by first | exact Below.refl _ _ | exact (Below.refl _ _).drew | exact bl_alloc _ _ | exact ((Below.refl _ _).drew).alloc (Nat.le_refl _) _)).1 (HD1.out _ (by first | exact Below.refl _ _ | exact (Below.refl _ _).drew | exact bl_alloc _ _ | exact ((Below.refl _ _).drew).alloc (Nat.le_refl _) _)).2.size); have HD2 : Hid (∀ W' : World, Below V2.heap.size V2 W' → bOwn W' W0.heap.size X2 32 xc2 _ ∧ Below W0.heap.size W0 W') := Lib.hid (fun W' hb => ⟨ho2.bl hb, hb2.trans (hb.mono hb2.size)⟩); have hk := HK.out V2 hb2; have d0 : V2.cell? ⟨w.heap.size, 0, none⟩ = some (.bool true) := hk.1; have d1 : V2.cell? ⟨w.heap.size, 1, none⟩ = some (.int .u64 sh) := hk.2.1; have d2 : V2.cell? ⟨w.heap.size, 2, none⟩ = some (.int .u64 sl) := hk.2.2.1; have d3 : V2.cell? ⟨w.heap.size, 3, none⟩ = some (.bool true) := hk.2.2.2.1; have d4 : V2.cell? ⟨w.heap.size, 4, none⟩ = some (.int .u64 th) := hk.2.2.2.2.1; have d5 : V2.cell? ⟨w.heap.size, 5, none⟩ = some (.int .u64 tl) := hk.2.2.2.2.2)
      | ((fail_if_success (have mk9 := mark1)); go_at_call 39; refine (putAddr16 W0.heap.size sh sl h1 h2 (none) 0 0 _ _ (HD0.out _ (by first | exact Below.refl _ _ | exact (Below.refl _ _).drew | exact bl_alloc _ _ | exact ((Below.refl _ _).drew).alloc (Nat.le_refl _) _)).1 ((HD0.out _ (by first | exact Below.refl _ _ | exact (Below.refl _ _).drew | exact bl_alloc _ _ | exact ((Below.refl _ _).drew).alloc (Nat.le_refl _) _)).2.size) (by omega)).mono ?_; rintro e V1 ⟨X1, xc1, rfl, ho1, hg1⟩; have mark1 : True := trivial; have hb1 : Below W0.heap.size W0 V1 := ((HD0.out _ (by first | exact Below.refl _ _ | exact (Below.refl _ _).drew | exact bl_alloc _ _ | exact ((Below.refl _ _).drew).alloc (Nat.le_refl _) _)).2).trans (hg1.below (HD0.out _ (by first | exact Below.refl _ _ | exact (Below.refl _ _).drew | exact bl_alloc _ _ | exact ((Below.refl _ _).drew).alloc (Nat.le_refl _) _)).1 (HD0.out _ (by first | exact Below.refl _ _ | exact (Below.refl _ _).drew | exact bl_alloc _ _ | exact ((Below.refl _ _).drew).alloc (Nat.le_refl _) _)).2.size); have HD1 : Hid (∀ W' : World, Below V1.heap.size V1 W' → bOwn W' W0.heap.size X1 16 xc1 _ ∧ Below W0.heap.size W0 W') := Lib.hid (fun W' hb => ⟨ho1.bl hb, hb1.trans (hb.mono hb1.size)⟩); have hk := HK.out V1 hb1; have d0 : V1.cell? ⟨w.heap.size, 0, none⟩ = some (.bool true) := hk.1; have d1 : V1.cell? ⟨w.heap.size, 1, none⟩ = some (.int .u64 sh) := hk.2.1; have d2 : V1.cell? ⟨w.heap.size, 2, none⟩ = some (.int .u64 sl) := hk.2.2.1; have d3 : V1.cell? ⟨w.heap.size, 3, none⟩ = some (.bool true) := hk.2.2.2.1; have d4 : V1.cell? ⟨w.heap.size, 4, none⟩ = some (.int .u64 th) := hk.2.2.2.2.1; have d5 : V1.cell? ⟨w.heap.size, 5, none⟩ = some (.int .u64 tl) := hk.2.2.2.2.2))
  have HO1 := Lib.hid ho3
  have HG1 := Lib.hid hb3
  clear HK HD0 HD1 HD2 HD3 ho1 hg1 hb1 ho2 hg2 hb2 ho3 hg3 hb3 c0 d0 c1 d1 c2 d2 c3 d3 c4 d4 c5 d5 hbw hk mark1 mark2 mark3
  clear sw_qn
  have h4' : W1.heap[w.heap.size]? = _ := (HG1.out.block _ hlB).trans H4.out
  go_upto_region 4 with (fail)
  go_step
  go_step
  go_step
  first | refine load_step rfl h4' (by kernel_rfl) (by kernel_rfl) ?_ | (go_step; refine load_step rfl h4' (by kernel_rfl) (by kernel_rfl) ?_) | (go_step; go_step; refine load_step rfl h4' (by kernel_rfl) (by kernel_rfl) ?_)
  clear h4'
  go_wp2_with fail
  refine (wire_any ⟨⟨pr, true, sh, sl, true, th, tl, fp, tp⟩, hops, syn, fin, rst, has, seq, ack, reply, id_, pA, pn, pc⟩ _).mono ?_
  rintro e V1 ⟨rfl, hbv⟩
  have HO2 := Lib.hid (HO1.out.bl hbv)
  have HG2 := Lib.hid (HG1.out.trans (hbv.mono HG1.out.size))
  clear hbv
  generalize hwr : wireP ⟨⟨pr, true, sh, sl, true, th, tl, fp, tp⟩, hops, syn, fin, rst, has, seq, ack, reply, id_, pA, pn, pc⟩ = wr
  have hwr0 : 0 ≤ wr ∧ wr ≤ 255 := by rw [← hwr]; unfold wireP; dsimp only; split <;> omega
  obtain ⟨wn, rfl⟩ : ∃ wn : Nat, wr = wn := ⟨wr.toNat, by omega⟩
  obtain ⟨c8, hwc⟩ : ∃ c : UInt8, UInt8.ofNat wn = c := ⟨_, rfl⟩
  have hw1 : IntKind.u8.wrap (wn : Int) = ((c8.toNat : Nat) : Int) := by rw [← hwc, IntWalk.u8_in _ (by omega), UInt8.toNat_ofNat']; omega
  have HWC := Lib.hid hwc
  have HWR := Lib.hid hwr
  clear hwc hwr hwr0
  go_wp2_with (at_builtin; refine wpList_app_b rfl (.tmp 22) (.tmp 26) rfl rfl (base := W0.heap.size) (A := A1) (k := 36) (cap := cap1) rfl (HO2.out.al _) (Nat.le_trans HG2.out.size (by simp)) (m := 4) (ys := [0, 0, 0, c8]) rfl (bAt.new (heap_alloc_new V1 _) rfl) rfl (by simp) (by omega) ?_)
  intro A3 cap3 W3 ho2 hg2
  have HO3 := Lib.hid ho2
  have HG3 := Lib.hid (HG2.out.trans (((bGrow.refl V1 A1).al _).trans hg2 |>.below HO2.out HG2.out.size))
  clear ho2 hg2
  go_wp2_with (at_builtin; refine wpList_app_b rfl (.tmp 49) (.tmp 50) rfl rfl (base := W0.heap.size) (A := A3) (k := 40) (cap := cap3) rfl HO3.out HG3.out.size (m := qn) (ys := part) rfl (HP.out.below HG3.out) hl hn (by omega) ?_)
  intro A9 cap9 W9 ho2 hg2
  have HG9 := Lib.hid (HG3.out.trans (hg2.below HO3.out HG3.out.size))
  obtain ⟨all, hall⟩ : ∃ all : List UInt8, [] ++ addrP true sh sl ++ addrP true th tl ++ putN qn 4 ++ [0, 0, 0, c8] ++ part = all := ⟨_, rfl⟩
  have ho2 : bOwn W9 W0.heap.size A9 (40 + qn) cap9 all := by rw [← hall]; simpa using ho2
  have hat := ho2.at_
  have hlen : all.length = 40 + qn := by have := ho2.1; omega
  have hsum := sum_any2 A9 cap9 all W9 hat (by omega)
  rw [hlen] at hsum
  have HALL := Lib.hid hall
  clear hall ho2 hg2 hat hlen
  go_wp2_with fail
  refine hsum.mono ?_
  rintro e V9 ⟨rfl, rfl⟩
  clear hsum
  have e7 : W9.cell? ⟨w.heap.size, 7, none⟩ = some (.int .i64 pr) := (HG9.out.cell (p := ⟨w.heap.size, 7, none⟩) hlB).trans (cell_of H4.out 7)
  have lB9 : w.heap.size < W9.heap.size := Nat.lt_of_lt_of_le hlB HG9.out.size
  have HPS : Hid (partSumP p part = if pr = 17 ∧ sumP all = 0 then 65535 else sumP all) := Lib.hid (by
    rw [HPE.out, ← HALL.out]
    unfold partSumP pseudoP; rw [hl, HWR.out, ← HWC.out]; simp)
  generalize sumP all = sm at HPS ⊢
  have HBF := Lib.hid (HBw.out.trans (HG9.out.mono HBw.out.size))
  clear HALL
  by_cases h17 : pr = 17
  · have e17 : (pr == 17) = true := by simp [h17]
    by_cases h0 : sm = 0
    · have e0 : ((sm : Int) == 0) = true := by simp [h0]
      have HR : Hid (((partSumP p part : Nat) : Int) = 65535) := Lib.hid (by rw [HPS.out, if_pos ⟨h17, h0⟩]; rfl)
      clear h17 h0 HPS
      go_wp2_with fail
      go_ret
      exact ⟨by rw [HR.out]; rfl, HBF.out⟩
    · have e0 : ((sm : Int) == 0) = false := by simp [h0]
      have HR : Hid (partSumP p part = sm) := Lib.hid (by rw [HPS.out, if_neg (fun c => h0 c.2)])
      clear h17 h0 HPS
      go_wp2_with fail
      go_ret
      exact ⟨by rw [HR.out]; rfl, HBF.out⟩
  · have e17 : (pr == 17) = false := by simp [h17]
    have HR : Hid (partSumP p part = sm) := Lib.hid (by rw [HPS.out, if_neg (fun c => h17 c.1)])
    clear h17 HPS
    go_wp2_with fail
    go_ret
    exact ⟨by rw [HR.out]; rfl, HBF.out⟩
set_option maxRecDepth 100000 in
set_option maxHeartbeats 4000000 in
theorem sum4 (pr sh sl th tl fp tp hops : Int) (syn fin rst has : Bool) (seq ack : Int) (reply : Bool) (id_ : Int) (pA : Option Addr) (pn pc : Nat) (q : Option Addr) (qn qc : Nat) (part : List UInt8) (w : World) (hp : bAt w q part) (hl : part.length = qn) (hn : q = none → qc = 0) (hs : qn ≤ 10000)
    (hpr : 0 ≤ pr ∧ pr ≤ 255) (h1 : 0 ≤ sh) (h2 : 0 ≤ sl) (h3 : 0 ≤ th) (h4 : 0 ≤ tl) (p : Pk) (hpe : p = ⟨⟨pr, false, sh, sl, false, th, tl, fp, tp⟩, hops, syn, fin, rst, has, seq, ack, reply, id_, pA, pn, pc⟩) (hp1' : pr ≠ 1) :
    Calls Tryz.prog 24 #[.agg #[.bool false, .int .u64 sh, .int .u64 sl, .bool false, .int .u64 th, .int .u64 tl, .int .i64 hops, .int .i64 pr, .int .i64 fp, .int .i64 tp, .bool syn, .bool fin, .bool rst, .bool has, .int .i64 seq, .int .i64 ack, .bool reply, .int .i64 id_, .slice pA pn pc], .slice q qn qc] w
      fun e w' => e = .returned (.int .i64 (partSumP p part)) ∧ Below w.heap.size w w' := by
  have h41 := al1 w (.cells (pkA p) 31)
  have HBwA := Lib.hid (bl_alloc w (.cells (pkA p) 31))
  have hsz1 : (w.alloc (.cells (pkA p) 31)).heap.size = w.heap.size + 1 := by simp
  have hp1 := hp.below HBwA.out
  have HPE := Lib.hid hpe
  rw [hpe] at h41 HBwA hsz1 hp1
  clear hpe
  go_enter Tryz.func24, Tryz.ntmps24
  go_upto_region 2 with (fail)
  generalize hW : World.alloc w _ = W0
  have h4' : W0.heap[w.heap.size]? = some (.cells (pkA ⟨⟨pr, false, sh, sl, false, th, tl, fp, tp⟩, hops, syn, fin, rst, has, seq, ack, reply, id_, pA, pn, pc⟩) 31 (0, 0)) := by rw [← hW]; exact h41
  have HBw : Hid (Below w.heap.size w W0) := Lib.hid (by rw [← hW]; exact HBwA.out)
  have HP : Hid (bAt W0 q part) := Lib.hid (by rw [← hW]; exact hp1)
  clear hW h41 hsz1 hp1 hp HBwA
  have H4 := Lib.hid h4'
  have HO0 : Hid (bOwn W0 W0.heap.size none 0 0 []) := Lib.hid (bOwn.nil _ _)
  have HG0 : Hid (Below W0.heap.size W0 W0) := Lib.hid (Below.refl _ _)
  have hlB : w.heap.size < W0.heap.size := lt_of_block h4'
  have b0 : W0.cell? ⟨w.heap.size, 0, none⟩ = some (.bool false) := cell_of h4' 0
  have b7 : W0.cell? ⟨w.heap.size, 7, none⟩ = some (.int .i64 pr) := cell_of h4' 7
  clear h4' 
  obtain ⟨prn, rfl⟩ : ∃ n : Nat, pr = n := ⟨pr.toNat, by omega⟩
  obtain ⟨c8, hwc⟩ : ∃ c : UInt8, UInt8.ofNat prn = c := ⟨_, rfl⟩
  have hw1 : IntKind.u8.wrap (prn : Int) = ((c8.toNat : Nat) : Int) := by rw [← hwc, IntWalk.u8_in _ (by omega), UInt8.toNat_ofNat']; omega
  have HWC := Lib.hid hwc
  clear hwc
  have e1 : ((prn : Int) != 1) = true := by simpa using hp1'
  have HN1 := Lib.hid hp1'
  clear hp1'
  go_upto_region 6 with (fail)
  go_cut [5] from 32 to 43 (fun v5 wd => ∃ A1 cap1, v5 = .slice A1 10 cap1 ∧ bOwn wd W0.heap.size A1 10 cap1 ([] ++ addrP false sh sl ++ addrP false th tl ++ [0, c8]) ∧ Below W0.heap.size W0 wd)
  case first =>
    have c0 : W0.cell? ⟨w.heap.size, 0, none⟩ = some (.bool false) := (HG0.out.cell (p := ⟨w.heap.size, 0, none⟩) (lt_of_block H4.out)).trans (cell_of H4.out 0)
    have c1 : W0.cell? ⟨w.heap.size, 1, none⟩ = some (.int .u64 sh) := (HG0.out.cell (p := ⟨w.heap.size, 1, none⟩) (lt_of_block H4.out)).trans (cell_of H4.out 1)
    have c2 : W0.cell? ⟨w.heap.size, 2, none⟩ = some (.int .u64 sl) := (HG0.out.cell (p := ⟨w.heap.size, 2, none⟩) (lt_of_block H4.out)).trans (cell_of H4.out 2)
    have c3 : W0.cell? ⟨w.heap.size, 3, none⟩ = some (.bool false) := (HG0.out.cell (p := ⟨w.heap.size, 3, none⟩) (lt_of_block H4.out)).trans (cell_of H4.out 3)
    have c4 : W0.cell? ⟨w.heap.size, 4, none⟩ = some (.int .u64 th) := (HG0.out.cell (p := ⟨w.heap.size, 4, none⟩) (lt_of_block H4.out)).trans (cell_of H4.out 4)
    have c5 : W0.cell? ⟨w.heap.size, 5, none⟩ = some (.int .u64 tl) := (HG0.out.cell (p := ⟨w.heap.size, 5, none⟩) (lt_of_block H4.out)).trans (cell_of H4.out 5)
    have c7 : W0.cell? ⟨w.heap.size, 7, none⟩ = some (.int .i64 prn) := (HG0.out.cell (p := ⟨w.heap.size, 7, none⟩) (lt_of_block H4.out)).trans (cell_of H4.out 7)
    have hbw : W0.heap.size ≤ W0.heap.size := HG0.out.size
    have HD0 : Hid (∀ W' : World, Below W0.heap.size W0 W' → bOwn W' W0.heap.size (none) 0 0 _ ∧ Below W0.heap.size W0 W') := Lib.hid (fun W' hb => ⟨HO0.out.bl hb, HG0.out.trans (hb.mono hbw)⟩)
    have HK : Hid (∀ W' : World, Below W0.heap.size W0 W' → W'.cell? ⟨w.heap.size, 0, none⟩ = some (.bool false) ∧ W'.cell? ⟨w.heap.size, 1, none⟩ = some (.int .u64 sh) ∧ W'.cell? ⟨w.heap.size, 2, none⟩ = some (.int .u64 sl) ∧ W'.cell? ⟨w.heap.size, 3, none⟩ = some (.bool false) ∧ W'.cell? ⟨w.heap.size, 4, none⟩ = some (.int .u64 th) ∧ W'.cell? ⟨w.heap.size, 5, none⟩ = some (.int .u64 tl) ∧ W'.cell? ⟨w.heap.size, 7, none⟩ = some (.int .i64 prn)) := Lib.hid (fun W' hb => ⟨(hb.cell (p := ⟨w.heap.size, 0, none⟩) (lt_of_block H4.out)).trans (cell_of H4.out 0), (hb.cell (p := ⟨w.heap.size, 1, none⟩) (lt_of_block H4.out)).trans (cell_of H4.out 1), (hb.cell (p := ⟨w.heap.size, 2, none⟩) (lt_of_block H4.out)).trans (cell_of H4.out 2), (hb.cell (p := ⟨w.heap.size, 3, none⟩) (lt_of_block H4.out)).trans (cell_of H4.out 3), (hb.cell (p := ⟨w.heap.size, 4, none⟩) (lt_of_block H4.out)).trans (cell_of H4.out 4), (hb.cell (p := ⟨w.heap.size, 5, none⟩) (lt_of_block H4.out)).trans (cell_of H4.out 5), (hb.cell (p := ⟨w.heap.size, 7, none⟩) (lt_of_block H4.out)).trans (cell_of H4.out 7)⟩)
    go_region_held3 (fun w' => w'.cell? ⟨w.heap.size, 0, none⟩ = some (.bool false) ∧ w'.cell? ⟨w.heap.size, 1, none⟩ = some (.int .u64 sh) ∧ w'.cell? ⟨w.heap.size, 2, none⟩ = some (.int .u64 sl) ∧ w'.cell? ⟨w.heap.size, 3, none⟩ = some (.bool false) ∧ w'.cell? ⟨w.heap.size, 4, none⟩ = some (.int .u64 th) ∧ w'.cell? ⟨w.heap.size, 5, none⟩ = some (.int .u64 tl) ∧ w'.cell? ⟨w.heap.size, 7, none⟩ = some (.int .i64 prn)) ((repeat' apply And.intro) <;> (repeat (first | with_reducible assumption | with_reducible refine keepD ?_ | with_reducible refine keepA ?_)))
      (first
        | (have mk3 := mark2; refine step_app_b rfl (.tmp 38) (.tmp 42) rfl rfl (base := W0.heap.size) (A := X2) (k := 8) (cap := xc2) rfl (HD2.out _ (by first | exact Below.refl _ _ | exact (Below.refl _ _).drew | exact bl_alloc _ _ | exact ((Below.refl _ _).drew).alloc (Nat.le_refl _) _)).1 (HD2.out _ (by first | exact Below.refl _ _ | exact (Below.refl _ _).drew | exact bl_alloc _ _ | exact ((Below.refl _ _).drew).alloc (Nat.le_refl _) _)).2.size (m := 2) (ys := [0, c8]) rfl (by first | exact bAt.new (heap_alloc_new V2 _) rfl | exact bAt.new (hg2.blk (heap_alloc_new V1 _) (fun c => by have := (ho1.2.lt _ (by rw [ownN_eq]; exact c)).2; omega)).1 rfl | exact bAt.new (hg2.blk (hg1.blk (heap_alloc_new _ _) (by simp [ownN, Value.ownBlock])).1 (hg1.blk (heap_alloc_new _ _) (by simp [ownN, Value.ownBlock])).2).1 rfl) (by first | rfl | assumption) (by simp) (by omega) ?_; intro A1 cap1 W1 ho3 hg3; have mark3 : True := trivial; have hb3 : Below W0.heap.size W0 W1 := ((HD2.out _ (by first | exact Below.refl _ _ | exact (Below.refl _ _).drew | exact bl_alloc _ _ | exact ((Below.refl _ _).drew).alloc (Nat.le_refl _) _)).2).trans (hg3.below (HD2.out _ (by first | exact Below.refl _ _ | exact (Below.refl _ _).drew | exact bl_alloc _ _ | exact ((Below.refl _ _).drew).alloc (Nat.le_refl _) _)).1 (HD2.out _ (by first | exact Below.refl _ _ | exact (Below.refl _ _).drew | exact bl_alloc _ _ | exact ((Below.refl _ _).drew).alloc (Nat.le_refl _) _)).2.size); have hk := HK.out W1 hb3; have d0 : W1.cell? ⟨w.heap.size, 0, none⟩ = some (.bool false) := hk.1; have d1 : W1.cell? ⟨w.heap.size, 1, none⟩ = some (.int .u64 sh) := hk.2.1; have d2 : W1.cell? ⟨w.heap.size, 2, none⟩ = some (.int .u64 sl) := hk.2.2.1; have d3 : W1.cell? ⟨w.heap.size, 3, none⟩ = some (.bool false) := hk.2.2.2.1; have d4 : W1.cell? ⟨w.heap.size, 4, none⟩ = some (.int .u64 th) := hk.2.2.2.2.1; have d5 : W1.cell? ⟨w.heap.size, 5, none⟩ = some (.int .u64 tl) := hk.2.2.2.2.2.1; have d7 : W1.cell? ⟨w.heap.size, 7, none⟩ = some (.int .i64 prn) := hk.2.2.2.2.2.2)
        | (have mk2 := mark1; go_at_call 39; refine (putAddr4 W0.heap.size th tl h3 h4 X1 4 xc1 _ _ (HD1.out _ (by first | exact Below.refl _ _ | exact (Below.refl _ _).drew | exact bl_alloc _ _ | exact ((Below.refl _ _).drew).alloc (Nat.le_refl _) _)).1 ((HD1.out _ (by first | exact Below.refl _ _ | exact (Below.refl _ _).drew | exact bl_alloc _ _ | exact ((Below.refl _ _).drew).alloc (Nat.le_refl _) _)).2.size) (by omega)).mono ?_; rintro e V2 ⟨X2, xc2, rfl, ho2, hg2⟩; have mark2 : True := trivial; have hb2 : Below W0.heap.size W0 V2 := ((HD1.out _ (by first | exact Below.refl _ _ | exact (Below.refl _ _).drew | exact bl_alloc _ _ | exact ((Below.refl _ _).drew).alloc (Nat.le_refl _) _)).2).trans (hg2.below (HD1.out _ (by first | exact Below.refl _ _ | exact (Below.refl _ _).drew | exact bl_alloc _ _ | exact ((Below.refl _ _).drew).alloc (Nat.le_refl _) _)).1 (HD1.out _ (by first | exact Below.refl _ _ | exact (Below.refl _ _).drew | exact bl_alloc _ _ | exact ((Below.refl _ _).drew).alloc (Nat.le_refl _) _)).2.size); have HD2 : Hid (∀ W' : World, Below V2.heap.size V2 W' → bOwn W' W0.heap.size X2 8 xc2 _ ∧ Below W0.heap.size W0 W') := Lib.hid (fun W' hb => ⟨ho2.bl hb, hb2.trans (hb.mono hb2.size)⟩); have hk := HK.out V2 hb2; have d0 : V2.cell? ⟨w.heap.size, 0, none⟩ = some (.bool false) := hk.1; have d1 : V2.cell? ⟨w.heap.size, 1, none⟩ = some (.int .u64 sh) := hk.2.1; have d2 : V2.cell? ⟨w.heap.size, 2, none⟩ = some (.int .u64 sl) := hk.2.2.1; have d3 : V2.cell? ⟨w.heap.size, 3, none⟩ = some (.bool false) := hk.2.2.2.1; have d4 : V2.cell? ⟨w.heap.size, 4, none⟩ = some (.int .u64 th) := hk.2.2.2.2.1; have d5 : V2.cell? ⟨w.heap.size, 5, none⟩ = some (.int .u64 tl) := hk.2.2.2.2.2.1; have d7 : V2.cell? ⟨w.heap.size, 7, none⟩ = some (.int .i64 prn) := hk.2.2.2.2.2.2)
        | ((fail_if_success (have mk9 := mark1)); go_at_call 39; refine (putAddr4 W0.heap.size sh sl h1 h2 (none) 0 0 _ _ (HD0.out _ (by first | exact Below.refl _ _ | exact (Below.refl _ _).drew | exact bl_alloc _ _ | exact ((Below.refl _ _).drew).alloc (Nat.le_refl _) _)).1 ((HD0.out _ (by first | exact Below.refl _ _ | exact (Below.refl _ _).drew | exact bl_alloc _ _ | exact ((Below.refl _ _).drew).alloc (Nat.le_refl _) _)).2.size) (by omega)).mono ?_; rintro e V1 ⟨X1, xc1, rfl, ho1, hg1⟩; have mark1 : True := trivial; have hb1 : Below W0.heap.size W0 V1 := ((HD0.out _ (by first | exact Below.refl _ _ | exact (Below.refl _ _).drew | exact bl_alloc _ _ | exact ((Below.refl _ _).drew).alloc (Nat.le_refl _) _)).2).trans (hg1.below (HD0.out _ (by first | exact Below.refl _ _ | exact (Below.refl _ _).drew | exact bl_alloc _ _ | exact ((Below.refl _ _).drew).alloc (Nat.le_refl _) _)).1 (HD0.out _ (by first | exact Below.refl _ _ | exact (Below.refl _ _).drew | exact bl_alloc _ _ | exact ((Below.refl _ _).drew).alloc (Nat.le_refl _) _)).2.size); have HD1 : Hid (∀ W' : World, Below V1.heap.size V1 W' → bOwn W' W0.heap.size X1 4 xc1 _ ∧ Below W0.heap.size W0 W') := Lib.hid (fun W' hb => ⟨ho1.bl hb, hb1.trans (hb.mono hb1.size)⟩); have hk := HK.out V1 hb1; have d0 : V1.cell? ⟨w.heap.size, 0, none⟩ = some (.bool false) := hk.1; have d1 : V1.cell? ⟨w.heap.size, 1, none⟩ = some (.int .u64 sh) := hk.2.1; have d2 : V1.cell? ⟨w.heap.size, 2, none⟩ = some (.int .u64 sl) := hk.2.2.1; have d3 : V1.cell? ⟨w.heap.size, 3, none⟩ = some (.bool false) := hk.2.2.2.1; have d4 : V1.cell? ⟨w.heap.size, 4, none⟩ = some (.int .u64 th) := hk.2.2.2.2.1; have d5 : V1.cell? ⟨w.heap.size, 5, none⟩ = some (.int .u64 tl) := hk.2.2.2.2.2.1; have d7 : V1.cell? ⟨w.heap.size, 7, none⟩ = some (.int .i64 prn) := hk.2.2.2.2.2.2))
    all_goals (
      have hres : bOwn W1 W0.heap.size A1 10 cap1 ([] ++ addrP false sh sl ++ addrP false th tl ++ [0, c8]) ∧ Below W0.heap.size W0 W1 := ⟨by simpa using ho3, hb3⟩
      clear ho3 hb3 hg3 ho2 hg2 hb2 ho1 hg1 hb1 HD0 HD1 HD2 HK
      go_wp2_with fail
      go_meet
      exact ⟨_, _, rfl, hres⟩)
  case rest =>
    obtain ⟨A1, cap1, rfl, ho2, hb2⟩ := hcut
    have HO1 := Lib.hid ho2
    have HG1 := Lib.hid hb2
    clear ho2 hb2
    have sw_qn : IntKind.u64.wrap (qn : Int) = (qn : Int) := IntWalk.u64_in _ (by omega)
    go_wp2_with fail
    refine (put_any W0.heap.size qn 2 (by omega) A1 10 cap1 _ _ HO1.out HG1.out.size (by omega)).mono ?_
    rintro e W2 ⟨A2, cap2, rfl, ho2, hg2⟩
    have HO2 := Lib.hid ho2
    have HG2 := Lib.hid (HG1.out.trans (hg2.below HO1.out HG1.out.size))
    clear ho2 hg2
    go_wp2_with (at_builtin; refine wpList_app_b rfl (.tmp 49) (.tmp 50) rfl rfl (base := W0.heap.size) (A := A2) (k := 12) (cap := cap2) rfl HO2.out HG2.out.size (m := qn) (ys := part) rfl (HP.out.below HG2.out) hl hn (by omega) ?_)
    intro A9 cap9 W9 ho2 hg2
    have HG9 := Lib.hid (HG2.out.trans (hg2.below HO2.out HG2.out.size))
    obtain ⟨all, hall⟩ : ∃ all : List UInt8, [] ++ addrP false sh sl ++ addrP false th tl ++ [0, c8] ++ putN qn 2 ++ part = all := ⟨_, rfl⟩
    have ho2 : bOwn W9 W0.heap.size A9 (12 + qn) cap9 all := by rw [← hall]; simpa using ho2
    have hat := ho2.at_
    have hlen : all.length = 12 + qn := by have := ho2.1; omega
    have hsum := sum_any2 A9 cap9 all W9 hat (by omega)
    rw [hlen] at hsum
    have HALL := Lib.hid hall
    clear hall ho2 hg2 hat hlen
    go_wp2_with fail
    refine hsum.mono ?_
    rintro e V9 ⟨rfl, rfl⟩
    clear hsum
    have e7 : W9.cell? ⟨w.heap.size, 7, none⟩ = some (.int .i64 prn) := (HG9.out.cell (p := ⟨w.heap.size, 7, none⟩) hlB).trans (cell_of H4.out 7)
    have lB9 : w.heap.size < W9.heap.size := Nat.lt_of_lt_of_le hlB HG9.out.size
    have HPS : Hid (partSumP p part = if (prn : Int) = 17 ∧ sumP all = 0 then 65535 else sumP all) := Lib.hid (by
      rw [HPE.out, ← HALL.out]
      unfold partSumP pseudoP; rw [hl, ← HWC.out]; simp [HN1.out])
    generalize sumP all = sm at HPS ⊢
    have HBF := Lib.hid (HBw.out.trans (HG9.out.mono HBw.out.size))
    clear HALL
    by_cases h17 : (prn : Int) = 17
    · have e17 : ((prn : Int) == 17) = true := by simp [h17]
      by_cases h0 : sm = 0
      · have e0 : ((sm : Int) == 0) = true := by simp [h0]
        have HR : Hid (((partSumP p part : Nat) : Int) = 65535) := Lib.hid (by rw [HPS.out, if_pos ⟨h17, h0⟩]; rfl)
        clear h17 h0 HPS
        go_wp2_with fail
        go_ret
        exact ⟨by rw [HR.out]; rfl, HBF.out⟩
      · have e0 : ((sm : Int) == 0) = false := by simp [h0]
        have HR : Hid (partSumP p part = sm) := Lib.hid (by rw [HPS.out, if_neg (fun c => h0 c.2)])
        clear h17 h0 HPS
        go_wp2_with fail
        go_ret
        exact ⟨by rw [HR.out]; rfl, HBF.out⟩
    · have e17 : ((prn : Int) == 17) = false := by simp [h17]
      have HR : Hid (partSumP p part = sm) := Lib.hid (by rw [HPS.out, if_neg (fun c => h17 c.1)])
      clear h17 HPS
      go_wp2_with fail
      go_ret
      exact ⟨by rw [HR.out]; rfl, HBF.out⟩
set_option maxRecDepth 100000 in
set_option maxHeartbeats 4000000 in
theorem sum1 (pr sh sl th tl fp tp hops : Int) (syn fin rst has : Bool) (seq ack : Int) (reply : Bool) (id_ : Int) (pA : Option Addr) (pn pc : Nat) (q : Option Addr) (qn qc : Nat) (part : List UInt8) (w : World) (hp : bAt w q part) (hl : part.length = qn) (hn : q = none → qc = 0) (hs : qn ≤ 10000)
    (_hpr : 0 ≤ pr ∧ pr ≤ 255) (_h1 : 0 ≤ sh) (_h2 : 0 ≤ sl) (_h3 : 0 ≤ th) (_h4 : 0 ≤ tl) (p : Pk) (hpe : p = ⟨⟨pr, false, sh, sl, false, th, tl, fp, tp⟩, hops, syn, fin, rst, has, seq, ack, reply, id_, pA, pn, pc⟩) (hp1' : pr = 1) :
    Calls Tryz.prog 24 #[.agg #[.bool false, .int .u64 sh, .int .u64 sl, .bool false, .int .u64 th, .int .u64 tl, .int .i64 hops, .int .i64 pr, .int .i64 fp, .int .i64 tp, .bool syn, .bool fin, .bool rst, .bool has, .int .i64 seq, .int .i64 ack, .bool reply, .int .i64 id_, .slice pA pn pc], .slice q qn qc] w
      fun e w' => e = .returned (.int .i64 (partSumP p part)) ∧ Below w.heap.size w w' := by
  have e1 : (pr != 1) = false := by simp [hp1']
  have HN1 := Lib.hid hp1'
  clear hp1'
  have h41 := al1 w (.cells (pkA p) 31)
  have HBwA := Lib.hid (bl_alloc w (.cells (pkA p) 31))
  have hsz1 : (w.alloc (.cells (pkA p) 31)).heap.size = w.heap.size + 1 := by simp
  have hp1 := hp.below HBwA.out
  have HPE := Lib.hid hpe
  rw [hpe] at h41 HBwA hsz1 hp1
  clear hpe
  go_enter Tryz.func24, Tryz.ntmps24
  go_upto_region 2 with (fail)
  generalize hW : World.alloc w _ = W0
  have h4' : W0.heap[w.heap.size]? = some (.cells (pkA ⟨⟨pr, false, sh, sl, false, th, tl, fp, tp⟩, hops, syn, fin, rst, has, seq, ack, reply, id_, pA, pn, pc⟩) 31 (0, 0)) := by rw [← hW]; exact h41
  have HBw : Hid (Below w.heap.size w W0) := Lib.hid (by rw [← hW]; exact HBwA.out)
  have HP : Hid (bAt W0 q part) := Lib.hid (by rw [← hW]; exact hp1)
  clear hW h41 hsz1 hp1 hp HBwA
  have H4 := Lib.hid h4'
  have HO0 : Hid (bOwn W0 W0.heap.size none 0 0 []) := Lib.hid (bOwn.nil _ _)
  have HG0 : Hid (Below W0.heap.size W0 W0) := Lib.hid (Below.refl _ _)
  have hlB : w.heap.size < W0.heap.size := lt_of_block h4'
  have b0 : W0.cell? ⟨w.heap.size, 0, none⟩ = some (.bool false) := cell_of h4' 0
  have b7 : W0.cell? ⟨w.heap.size, 7, none⟩ = some (.int .i64 pr) := cell_of h4' 7
  clear h4' 
  go_upto_region 8 with (fail)
  go_wp2_with (at_builtin; refine wpList_app_b rfl (.tmp 49) (.tmp 50) rfl rfl (base := W0.heap.size) (A := none) (k := 0) (cap := 0) rfl HO0.out HG0.out.size (m := qn) (ys := part) rfl (HP.out.below HG0.out) hl hn (by omega) ?_)
  intro A9 cap9 W9 ho2 hg2
  have HG9 := Lib.hid (HG0.out.trans (hg2.below HO0.out HG0.out.size))
  obtain ⟨all, hall⟩ : ∃ all : List UInt8, [] ++ part = all := ⟨_, rfl⟩
  have ho2 : bOwn W9 W0.heap.size A9 (0 + qn) cap9 all := by rw [← hall]; simpa using ho2
  have hat := ho2.at_
  have hlen : all.length = qn := by have := ho2.1; omega
  have hsum := sum_any2 A9 cap9 all W9 hat (by omega)
  rw [hlen] at hsum
  have HALL := Lib.hid hall
  clear hall ho2 hg2 hat hlen
  go_wp2_with fail
  refine hsum.mono ?_
  rintro e V9 ⟨rfl, rfl⟩
  clear hsum
  have e7 : W9.cell? ⟨w.heap.size, 7, none⟩ = some (.int .i64 pr) := (HG9.out.cell (p := ⟨w.heap.size, 7, none⟩) hlB).trans (cell_of H4.out 7)
  have lB9 : w.heap.size < W9.heap.size := Nat.lt_of_lt_of_le hlB HG9.out.size
  have HPS : Hid (partSumP p part = if pr = 17 ∧ sumP all = 0 then 65535 else sumP all) := Lib.hid (by
    rw [HPE.out, ← HALL.out]
    unfold partSumP pseudoP; simp [HN1.out])
  generalize sumP all = sm at HPS ⊢
  have HBF := Lib.hid (HBw.out.trans (HG9.out.mono HBw.out.size))
  clear HALL
  by_cases h17 : pr = 17
  · have e17 : (pr == 17) = true := by simp [h17]
    by_cases h0 : sm = 0
    · have e0 : ((sm : Int) == 0) = true := by simp [h0]
      have HR : Hid (((partSumP p part : Nat) : Int) = 65535) := Lib.hid (by rw [HPS.out, if_pos ⟨h17, h0⟩]; rfl)
      clear h17 h0 HPS
      go_wp2_with fail
      go_ret
      exact ⟨by rw [HR.out]; rfl, HBF.out⟩
    · have e0 : ((sm : Int) == 0) = false := by simp [h0]
      have HR : Hid (partSumP p part = sm) := Lib.hid (by rw [HPS.out, if_neg (fun c => h0 c.2)])
      clear h17 h0 HPS
      go_wp2_with fail
      go_ret
      exact ⟨by rw [HR.out]; rfl, HBF.out⟩
  · have e17 : (pr == 17) = false := by simp [h17]
    have HR : Hid (partSumP p part = sm) := Lib.hid (by rw [HPS.out, if_neg (fun c => h17 c.1)])
    clear h17 HPS
    go_wp2_with fail
    go_ret
    exact ⟨by rw [HR.out]; rfl, HBF.out⟩
end Go.Proofs.YtfakfhbcpldeoaaGreatDoor
