/- Packets as bytes: the part of a packet (printed by gen_pxe.py). -/
import Derived.Test.YtfakfhbcpldeoaaGreatDoorPxD
import Derived.Test.YtfakfhbcpldeoaaGreatDoorPkE
namespace Go.Proofs.YtfakfhbcpldeoaaGreatDoor
open Go.RowKit Go.Hw

theorem bOwn.bl {w w' : World} {base k cap : Nat} {A : Option Addr} {bs : List UInt8} (h : bOwn w base A k cap bs) (hb : Below w.heap.size w w') : bOwn w' base A k cap bs := ⟨h.1, rw_same h.2 (fun k hk => hb.block k (h.2.lt k hk).2)⟩
theorem bOwn.al {w : World} {base k cap : Nat} {A : Option Addr} {bs : List UInt8} (h : bOwn w base A k cap bs) (o : Obj) : bOwn (w.alloc o) base A k cap bs := ⟨h.1, h.2.alloc o⟩
set_option maxRecDepth 100000 in
set_option maxHeartbeats 4000000 in
theorem partTcp (s6 : Bool) (sh sl : Int) (t6 : Bool) (th tl : Int) (fp tp : Nat) (hops : Int) (syn fin rst has : Bool) (seq ack : Nat) (reply : Bool) (id_ : Nat) (pA : Option Addr) (pn pc : Nat) (pay : List UInt8) (w : World) (hp : bAt w pA pay) (hl : pay.length = pn) (hn : pA = none → pc = 0) (hs : pn ≤ 10000)
    (hf : fp ≤ 65535 ∧ tp ≤ 65535 ∧ seq ≤ 4294967295 ∧ ack ≤ 4294967295 ∧ id_ ≤ 65535) (p : Pk) (hpe : p = ⟨⟨6, s6, sh, sl, t6, th, tl, fp, tp⟩, hops, syn, fin, rst, has, seq, ack, reply, id_, pA, pn, pc⟩) :
    Calls Tryz.prog 25 #[.agg #[.bool s6, .int .u64 sh, .int .u64 sl, .bool t6, .int .u64 th, .int .u64 tl, .int .i64 hops, .int .i64 6, .int .i64 fp, .int .i64 tp, .bool syn, .bool fin, .bool rst, .bool has, .int .i64 seq, .int .i64 ack, .bool reply, .int .i64 id_, .slice pA pn pc]] w
      fun e w' => ∃ A n cap, e = .returned (.slice A n cap) ∧ bOwn w' (w.heap.size + 1) A n cap (partP p pay) ∧ Below w.heap.size w w' := by
  obtain ⟨hf1, hf2, hf3, hf4, hf5⟩ := hf
  have h41 := al1 w (.cells (pkA p) 31)
  have HBw := Lib.hid (bl_alloc w (.cells (pkA p) 31))
  have hsz1 : (w.alloc (.cells (pkA p) 31)).heap.size = w.heap.size + 1 := by simp
  have hp1 := hp.below HBw.out
  have HPE := Lib.hid hpe
  rw [hpe] at h41 HBw hsz1 hp1
  clear hpe
  go_enter Tryz.func25, Tryz.ntmps25
  go_upto_region 2 with (fail)
  generalize hW : World.alloc w _ = W0
  have h4 : W0.heap[w.heap.size]? = some (.cells (pkA ⟨⟨6, s6, sh, sl, t6, th, tl, fp, tp⟩, hops, syn, fin, rst, has, seq, ack, reply, id_, pA, pn, pc⟩) 31 (0, 0)) := by rw [← hW]; exact h41
  have HBw : Hid (Below w.heap.size w W0) := Lib.hid (by rw [← hW]; exact HBw.out)
  have hsz : W0.heap.size = w.heap.size + 1 := by rw [← hW]; exact hsz1
  have HP : Hid (bAt W0 pA pay) := Lib.hid (by rw [← hW]; exact hp1)
  clear hW h41 hsz1 hp1 hp
  have H4 := Lib.hid h4
  have HSZ := Lib.hid hsz
  have HO0 : Hid (bOwn W0 W0.heap.size none 0 0 []) := Lib.hid (bOwn.nil _ _)
  have HG0 : Hid (Below W0.heap.size W0 W0) := Lib.hid (Below.refl _ _)
  have hlB : w.heap.size < W0.heap.size := lt_of_block h4
  have c7 : W0.cell? ⟨w.heap.size, 7, none⟩ = some (.int .i64 6) := cell_of h4 7
  clear h4 hsz
  go_upto_region 6 with (fail)
  have c8 : W0.cell? ⟨w.heap.size, 8, none⟩ = some (.int .i64 fp) := (HG0.out.cell (p := ⟨w.heap.size, 8, none⟩) (lt_of_block H4.out)).trans (cell_of H4.out 8)
  have c9 : W0.cell? ⟨w.heap.size, 9, none⟩ = some (.int .i64 tp) := (HG0.out.cell (p := ⟨w.heap.size, 9, none⟩) (lt_of_block H4.out)).trans (cell_of H4.out 9)
  have sw_fp : IntKind.u64.wrap (fp : Int) = (fp : Int) := IntWalk.u64_in _ (by omega)
  have sw_tp : IntKind.u64.wrap (tp : Int) = (tp : Int) := IntWalk.u64_in _ (by omega)
  have hbw : W0.heap.size ≤ W0.drew.heap.size := HG0.out.size
  have HD : Hid (bOwn W0.drew W0.heap.size none 0 0 _) := Lib.hid HO0.out
  have HK : Hid (∀ W' : World, Below W0.heap.size W0.drew W' → W'.cell? ⟨w.heap.size, 8, none⟩ = some (.int .i64 fp) ∧ W'.cell? ⟨w.heap.size, 9, none⟩ = some (.int .i64 tp)) := Lib.hid (fun W' hb => ⟨(hb.cell (p := ⟨w.heap.size, 8, none⟩) (lt_of_block H4.out)).trans c8, (hb.cell (p := ⟨w.heap.size, 9, none⟩) (lt_of_block H4.out)).trans c9⟩)
  go_region_held3 (fun w' => w'.cell? ⟨w.heap.size, 8, none⟩ = some (.int .i64 fp) ∧ w'.cell? ⟨w.heap.size, 9, none⟩ = some (.int .i64 tp)) ((repeat' apply And.intro) <;> (first | with_reducible assumption | with_reducible refine keepD ?_) <;> with_reducible assumption)
    (first
      | (have mk2 := mark1; go_at_call 37; refine (put_any W0.heap.size tp 2 (by omega) X1 2 xc1 _ _ ho1 (Nat.le_trans hbw hg1.1.size) (by omega)).mono ?_; rintro e W1 ⟨A1, cap1, rfl, ho2, hg2⟩; have hb2 := hb1.trans (hg2.below ho1 (Nat.le_trans hbw hg1.1.size)); have d8 : W1.cell? ⟨w.heap.size, 8, none⟩ = some (.int .i64 fp) := (HK.out W1 hb2).1; have d9 : W1.cell? ⟨w.heap.size, 9, none⟩ = some (.int .i64 tp) := (HK.out W1 hb2).2)
      | ((fail_if_success (have mk9 := mark1)); go_at_call 37; refine (put_any W0.heap.size fp 2 (by omega) (none) 0 0 _ _ HD.out hbw (by omega)).mono ?_; rintro e X ⟨X1, xc1, rfl, ho1, hg1⟩; have mark1 : True := trivial; have hb1 := hg1.below HD.out hbw; have d8 : X.cell? ⟨w.heap.size, 8, none⟩ = some (.int .i64 fp) := (HK.out X hb1).1; have d9 : X.cell? ⟨w.heap.size, 9, none⟩ = some (.int .i64 tp) := (HK.out X hb1).2))
  have HO1 := Lib.hid ho2
  have HG1 := Lib.hid (HG0.out.trans (show Below W0.heap.size W0 W1 from ⟨hb2.os, hb2.tape, hb2.output, hb2.size, hb2.block⟩))
  clear ho1 ho2 hg1 hg2 hb1 hb2 HD HK hbw c8 c9 d8 d9 sw_fp sw_tp mark1 mk2
  go_upto_region 7 with (fail)
  have c14 : W1.cell? ⟨w.heap.size, 14, none⟩ = some (.int .i64 seq) := (HG1.out.cell (p := ⟨w.heap.size, 14, none⟩) (lt_of_block H4.out)).trans (cell_of H4.out 14)
  have c15 : W1.cell? ⟨w.heap.size, 15, none⟩ = some (.int .i64 ack) := (HG1.out.cell (p := ⟨w.heap.size, 15, none⟩) (lt_of_block H4.out)).trans (cell_of H4.out 15)
  have sw_seq : IntKind.u64.wrap (seq : Int) = (seq : Int) := IntWalk.u64_in _ (by omega)
  have sw_ack : IntKind.u64.wrap (ack : Int) = (ack : Int) := IntWalk.u64_in _ (by omega)
  have hbw : W0.heap.size ≤ W1.drew.heap.size := HG1.out.size
  have HD : Hid (bOwn W1.drew W0.heap.size A1 4 cap1 _) := Lib.hid HO1.out
  have HK : Hid (∀ W' : World, Below W0.heap.size W1.drew W' → W'.cell? ⟨w.heap.size, 14, none⟩ = some (.int .i64 seq) ∧ W'.cell? ⟨w.heap.size, 15, none⟩ = some (.int .i64 ack)) := Lib.hid (fun W' hb => ⟨(hb.cell (p := ⟨w.heap.size, 14, none⟩) (lt_of_block H4.out)).trans c14, (hb.cell (p := ⟨w.heap.size, 15, none⟩) (lt_of_block H4.out)).trans c15⟩)
  go_region_held3 (fun w' => w'.cell? ⟨w.heap.size, 14, none⟩ = some (.int .i64 seq) ∧ w'.cell? ⟨w.heap.size, 15, none⟩ = some (.int .i64 ack)) ((repeat' apply And.intro) <;> (first | with_reducible assumption | with_reducible refine keepD ?_) <;> with_reducible assumption)
    (first
      | (have mk2 := mark1; go_at_call 37; refine (put_any W0.heap.size ack 4 (by omega) X1 8 xc1 _ _ ho1 (Nat.le_trans hbw hg1.1.size) (by omega)).mono ?_; rintro e W2 ⟨A2, cap2, rfl, ho2, hg2⟩; have hb2 := hb1.trans (hg2.below ho1 (Nat.le_trans hbw hg1.1.size)); have d14 : W2.cell? ⟨w.heap.size, 14, none⟩ = some (.int .i64 seq) := (HK.out W2 hb2).1; have d15 : W2.cell? ⟨w.heap.size, 15, none⟩ = some (.int .i64 ack) := (HK.out W2 hb2).2)
      | ((fail_if_success (have mk9 := mark1)); go_at_call 37; refine (put_any W0.heap.size seq 4 (by omega) A1 4 cap1 _ _ HD.out hbw (by omega)).mono ?_; rintro e X ⟨X1, xc1, rfl, ho1, hg1⟩; have mark1 : True := trivial; have hb1 := hg1.below HD.out hbw; have d14 : X.cell? ⟨w.heap.size, 14, none⟩ = some (.int .i64 seq) := (HK.out X hb1).1; have d15 : X.cell? ⟨w.heap.size, 15, none⟩ = some (.int .i64 ack) := (HK.out X hb1).2))
  have HO2 := Lib.hid ho2
  have HG2 := Lib.hid (HG1.out.trans (show Below W0.heap.size W1 W2 from ⟨hb2.os, hb2.tape, hb2.output, hb2.size, hb2.block⟩))
  clear ho1 ho2 hg1 hg2 hb1 hb2 HD HK hbw c14 c15 d14 d15 sw_seq sw_ack mark1 mk2
  have h4' : W2.heap[w.heap.size]? = _ := (HG2.out.block _ hlB).trans H4.out
  go_upto_region 8 with (fail)
  go_step
  go_step
  go_step
  first | refine load_step rfl h4' (by kernel_rfl) (by kernel_rfl) ?_ | (go_step; refine load_step rfl h4' (by kernel_rfl) (by kernel_rfl) ?_) | (go_step; go_step; refine load_step rfl h4' (by kernel_rfl) (by kernel_rfl) ?_)
  clear h4'
  go_wp2_with fail
  refine (flags_any ⟨⟨6, s6, sh, sl, t6, th, tl, fp, tp⟩, hops, syn, fin, rst, has, seq, ack, reply, id_, pA, pn, pc⟩ _).mono ?_
  rintro e V1 ⟨rfl, hbv⟩
  have HO3 := Lib.hid (HO2.out.bl hbv)
  have HG3 := Lib.hid (HG2.out.trans (hbv.mono HG2.out.size))
  clear hbv
  generalize hfl : flagsP ⟨⟨6, s6, sh, sl, t6, th, tl, fp, tp⟩, hops, syn, fin, rst, has, seq, ack, reply, id_, pA, pn, pc⟩ = fl
  have HFL := Lib.hid hfl
  clear hfl
  go_wp2_with (at_builtin; refine wpList_app_b rfl (.tmp 40) (.tmp 43) rfl rfl (base := W0.heap.size) (A := A2) (k := 12) (cap := cap2) rfl (HO3.out.al _) (Nat.le_trans HG3.out.size (by simp)) (m := 8) (ys := [80, fl, 255, 255, 0, 0, 0, 0]) rfl (bAt.new (heap_alloc_new V1 _) rfl) rfl (by simp) (by omega) ?_)
  intro A4 cap4 W4 ho2 hg2
  have HO4 := Lib.hid ho2
  have HG4 := Lib.hid (HG3.out.trans (((bGrow.refl V1 A2).al _).trans hg2 |>.below HO3.out HG3.out.size))
  clear ho2 hg2
  have c18 : W4.cell? ⟨w.heap.size, 18, none⟩ = some (.slice pA pn pc) := (HG4.out.cell (p := ⟨w.heap.size, 18, none⟩) (lt_of_block H4.out)).trans (cell_of H4.out 18)
  have lB4 : w.heap.size < W4.heap.size := Nat.lt_of_lt_of_le hlB HG4.out.size
  go_wp2_with (at_builtin; refine wpList_app_b rfl (.tmp 66) (.tmp 68) rfl rfl (base := W0.heap.size) (A := A4) (k := 20) (cap := cap4) rfl HO4.out HG4.out.size (m := pn) (ys := pay) rfl (HP.out.below HG4.out) hl hn (by omega) ?_)
  intro A9 cap9 W9 ho2 hg2
  have HO9 := Lib.hid ho2
  have HG9 := Lib.hid (HG4.out.trans (hg2.below HO4.out HG4.out.size))
  clear ho2 hg2
  go_wp2_with fail
  go_ret
  refine ⟨A9, _, cap9, rfl, ?_, HBw.out.trans (HG9.out.mono HBw.out.size)⟩
  have hfin := HO9.out
  rw [HSZ.out] at hfin
  subst hl
  rw [HPE.out]
  have e : partP ⟨⟨6, s6, sh, sl, t6, th, tl, fp, tp⟩, hops, syn, fin, rst, has, seq, ack, reply, id_, pA, pay.length, pc⟩ pay = [] ++ putN fp 2 ++ putN tp 2 ++ putN seq 4 ++ putN ack 4 ++ [80, fl, 255, 255, 0, 0, 0, 0] ++ pay := by rw [← HFL.out]; simp [partP, frontP]
  rw [e]
  exact hfin
set_option maxRecDepth 100000 in
set_option maxHeartbeats 4000000 in
theorem partUdp (s6 : Bool) (sh sl : Int) (t6 : Bool) (th tl : Int) (fp tp : Nat) (hops : Int) (syn fin rst has : Bool) (seq ack : Nat) (reply : Bool) (id_ : Nat) (pA : Option Addr) (pn pc : Nat) (pay : List UInt8) (w : World) (hp : bAt w pA pay) (hl : pay.length = pn) (hn : pA = none → pc = 0) (hs : pn ≤ 10000)
    (hf : fp ≤ 65535 ∧ tp ≤ 65535 ∧ seq ≤ 4294967295 ∧ ack ≤ 4294967295 ∧ id_ ≤ 65535) (p : Pk) (hpe : p = ⟨⟨17, s6, sh, sl, t6, th, tl, fp, tp⟩, hops, syn, fin, rst, has, seq, ack, reply, id_, pA, pn, pc⟩) :
    Calls Tryz.prog 25 #[.agg #[.bool s6, .int .u64 sh, .int .u64 sl, .bool t6, .int .u64 th, .int .u64 tl, .int .i64 hops, .int .i64 17, .int .i64 fp, .int .i64 tp, .bool syn, .bool fin, .bool rst, .bool has, .int .i64 seq, .int .i64 ack, .bool reply, .int .i64 id_, .slice pA pn pc]] w
      fun e w' => ∃ A n cap, e = .returned (.slice A n cap) ∧ bOwn w' (w.heap.size + 1) A n cap (partP p pay) ∧ Below w.heap.size w w' := by
  obtain ⟨hf1, hf2, hf3, hf4, hf5⟩ := hf
  have h41 := al1 w (.cells (pkA p) 31)
  have HBw := Lib.hid (bl_alloc w (.cells (pkA p) 31))
  have hsz1 : (w.alloc (.cells (pkA p) 31)).heap.size = w.heap.size + 1 := by simp
  have hp1 := hp.below HBw.out
  have HPE := Lib.hid hpe
  rw [hpe] at h41 HBw hsz1 hp1
  clear hpe
  go_enter Tryz.func25, Tryz.ntmps25
  go_upto_region 2 with (fail)
  generalize hW : World.alloc w _ = W0
  have h4 : W0.heap[w.heap.size]? = some (.cells (pkA ⟨⟨17, s6, sh, sl, t6, th, tl, fp, tp⟩, hops, syn, fin, rst, has, seq, ack, reply, id_, pA, pn, pc⟩) 31 (0, 0)) := by rw [← hW]; exact h41
  have HBw : Hid (Below w.heap.size w W0) := Lib.hid (by rw [← hW]; exact HBw.out)
  have hsz : W0.heap.size = w.heap.size + 1 := by rw [← hW]; exact hsz1
  have HP : Hid (bAt W0 pA pay) := Lib.hid (by rw [← hW]; exact hp1)
  clear hW h41 hsz1 hp1 hp
  have H4 := Lib.hid h4
  have HSZ := Lib.hid hsz
  have HO0 : Hid (bOwn W0 W0.heap.size none 0 0 []) := Lib.hid (bOwn.nil _ _)
  have HG0 : Hid (Below W0.heap.size W0 W0) := Lib.hid (Below.refl _ _)
  have hlB : w.heap.size < W0.heap.size := lt_of_block h4
  have c7 : W0.cell? ⟨w.heap.size, 7, none⟩ = some (.int .i64 17) := cell_of h4 7
  clear h4 hsz
  go_upto_region 10 with (fail)
  have c8 : W0.cell? ⟨w.heap.size, 8, none⟩ = some (.int .i64 fp) := (HG0.out.cell (p := ⟨w.heap.size, 8, none⟩) (lt_of_block H4.out)).trans (cell_of H4.out 8)
  have c9 : W0.cell? ⟨w.heap.size, 9, none⟩ = some (.int .i64 tp) := (HG0.out.cell (p := ⟨w.heap.size, 9, none⟩) (lt_of_block H4.out)).trans (cell_of H4.out 9)
  have sw_fp : IntKind.u64.wrap (fp : Int) = (fp : Int) := IntWalk.u64_in _ (by omega)
  have sw_tp : IntKind.u64.wrap (tp : Int) = (tp : Int) := IntWalk.u64_in _ (by omega)
  have hbw : W0.heap.size ≤ W0.drew.heap.size := HG0.out.size
  have HD : Hid (bOwn W0.drew W0.heap.size none 0 0 _) := Lib.hid HO0.out
  have HK : Hid (∀ W' : World, Below W0.heap.size W0.drew W' → W'.cell? ⟨w.heap.size, 8, none⟩ = some (.int .i64 fp) ∧ W'.cell? ⟨w.heap.size, 9, none⟩ = some (.int .i64 tp)) := Lib.hid (fun W' hb => ⟨(hb.cell (p := ⟨w.heap.size, 8, none⟩) (lt_of_block H4.out)).trans c8, (hb.cell (p := ⟨w.heap.size, 9, none⟩) (lt_of_block H4.out)).trans c9⟩)
  go_region_held3 (fun w' => w'.cell? ⟨w.heap.size, 8, none⟩ = some (.int .i64 fp) ∧ w'.cell? ⟨w.heap.size, 9, none⟩ = some (.int .i64 tp)) ((repeat' apply And.intro) <;> (first | with_reducible assumption | with_reducible refine keepD ?_) <;> with_reducible assumption)
    (first
      | (have mk2 := mark1; go_at_call 37; refine (put_any W0.heap.size tp 2 (by omega) X1 2 xc1 _ _ ho1 (Nat.le_trans hbw hg1.1.size) (by omega)).mono ?_; rintro e W1 ⟨A1, cap1, rfl, ho2, hg2⟩; have hb2 := hb1.trans (hg2.below ho1 (Nat.le_trans hbw hg1.1.size)); have d8 : W1.cell? ⟨w.heap.size, 8, none⟩ = some (.int .i64 fp) := (HK.out W1 hb2).1; have d9 : W1.cell? ⟨w.heap.size, 9, none⟩ = some (.int .i64 tp) := (HK.out W1 hb2).2)
      | ((fail_if_success (have mk9 := mark1)); go_at_call 37; refine (put_any W0.heap.size fp 2 (by omega) (none) 0 0 _ _ HD.out hbw (by omega)).mono ?_; rintro e X ⟨X1, xc1, rfl, ho1, hg1⟩; have mark1 : True := trivial; have hb1 := hg1.below HD.out hbw; have d8 : X.cell? ⟨w.heap.size, 8, none⟩ = some (.int .i64 fp) := (HK.out X hb1).1; have d9 : X.cell? ⟨w.heap.size, 9, none⟩ = some (.int .i64 tp) := (HK.out X hb1).2))
  have HO1 := Lib.hid ho2
  have HG1 := Lib.hid (HG0.out.trans (show Below W0.heap.size W0 W1 from ⟨hb2.os, hb2.tape, hb2.output, hb2.size, hb2.block⟩))
  clear ho1 ho2 hg1 hg2 hb1 hb2 HD HK hbw c8 c9 d8 d9 sw_fp sw_tp mark1 mk2
  obtain ⟨q, hq⟩ : ∃ q : Nat, q = 8 + pn := ⟨_, rfl⟩
  have s1 : IntKind.i64.wrap (8 + (pn : Int)) = 8 + (pn : Int) := IntWalk.i64_in _ (by omega)
  have s2 : IntKind.u64.wrap (8 + (pn : Int)) = (q : Int) := (IntWalk.u64_in _ (by omega)).trans (by omega)
  have HQ := Lib.hid hq
  clear hq
  have c18 : W1.cell? ⟨w.heap.size, 18, none⟩ = some (.slice pA pn pc) := (HG1.out.cell (p := ⟨w.heap.size, 18, none⟩) (lt_of_block H4.out)).trans (cell_of H4.out 18)
  have lB : w.heap.size < W1.heap.size := Nat.lt_of_lt_of_le hlB HG1.out.size
  go_wp2_with fail
  refine (put_any W0.heap.size q 2 (by omega) A1 4 cap1 _ _ HO1.out HG1.out.size (by omega)).mono ?_
  rintro e W2 ⟨A2, cap2, rfl, ho2, hg2⟩
  have HO2 := Lib.hid ho2
  have HG2 := Lib.hid (HG1.out.trans (hg2.below HO1.out HG1.out.size))
  clear ho2 hg2
  go_wp2_with (at_builtin; refine wpList_app_b rfl (.tmp 63) (.tmp 64) rfl rfl (base := W0.heap.size) (A := A2) (k := 6) (cap := cap2) rfl (HO2.out.al _) (Nat.le_trans HG2.out.size (by simp)) (m := 2) (ys := [0, 0]) rfl (bAt.new (heap_alloc_new W2 _) rfl) rfl (by simp) (by omega) ?_)
  intro A3 cap3 W3 ho2 hg2
  have HO3 := Lib.hid ho2
  have HG3 := Lib.hid (HG2.out.trans (((bGrow.refl W2 A2).al _).trans hg2 |>.below HO2.out HG2.out.size))
  clear ho2 hg2
  have c18 : W3.cell? ⟨w.heap.size, 18, none⟩ = some (.slice pA pn pc) := (HG3.out.cell (p := ⟨w.heap.size, 18, none⟩) (lt_of_block H4.out)).trans (cell_of H4.out 18)
  have lB3 : w.heap.size < W3.heap.size := Nat.lt_of_lt_of_le hlB HG3.out.size
  go_wp2_with (at_builtin; refine wpList_app_b rfl (.tmp 66) (.tmp 68) rfl rfl (base := W0.heap.size) (A := A3) (k := 8) (cap := cap3) rfl HO3.out HG3.out.size (m := pn) (ys := pay) rfl (HP.out.below HG3.out) hl hn (by omega) ?_)
  intro A9 cap9 W9 ho2 hg2
  have HO9 := Lib.hid ho2
  have HG9 := Lib.hid (HG3.out.trans (hg2.below HO3.out HG3.out.size))
  clear ho2 hg2
  go_wp2_with fail
  go_ret
  refine ⟨A9, _, cap9, rfl, ?_, HBw.out.trans (HG9.out.mono HBw.out.size)⟩
  have hfin := HO9.out
  rw [HSZ.out] at hfin
  subst hl
  rw [HPE.out]
  have e : partP ⟨⟨17, s6, sh, sl, t6, th, tl, fp, tp⟩, hops, syn, fin, rst, has, seq, ack, reply, id_, pA, pay.length, pc⟩ pay = [] ++ putN fp 2 ++ putN tp 2 ++ putN q 2 ++ [0, 0] ++ pay := by rw [HQ.out]; simp [partP, frontP]
  rw [e]
  exact hfin
set_option maxRecDepth 100000 in
set_option maxHeartbeats 4000000 in
theorem partIcmp (s6 : Bool) (sh sl : Int) (t6 : Bool) (th tl : Int) (fp tp : Nat) (hops : Int) (syn fin rst has : Bool) (seq ack : Nat) (reply : Bool) (id_ : Nat) (pA : Option Addr) (pn pc : Nat) (pay : List UInt8) (pr : Int) (w : World) (hp : bAt w pA pay) (hl : pay.length = pn) (hn : pA = none → pc = 0) (hs : pn ≤ 10000)
    (hf : fp ≤ 65535 ∧ tp ≤ 65535 ∧ seq ≤ 4294967295 ∧ ack ≤ 4294967295 ∧ id_ ≤ 65535) (p : Pk) (hpe : p = ⟨⟨pr, s6, sh, sl, t6, th, tl, fp, tp⟩, hops, syn, fin, rst, has, seq, ack, reply, id_, pA, pn, pc⟩) (h6 : pr ≠ 6) (h17 : pr ≠ 17) :
    Calls Tryz.prog 25 #[.agg #[.bool s6, .int .u64 sh, .int .u64 sl, .bool t6, .int .u64 th, .int .u64 tl, .int .i64 hops, .int .i64 pr, .int .i64 fp, .int .i64 tp, .bool syn, .bool fin, .bool rst, .bool has, .int .i64 seq, .int .i64 ack, .bool reply, .int .i64 id_, .slice pA pn pc]] w
      fun e w' => ∃ A n cap, e = .returned (.slice A n cap) ∧ bOwn w' (w.heap.size + 1) A n cap (partP p pay) ∧ Below w.heap.size w w' := by
  obtain ⟨hf1, hf2, hf3, hf4, hf5⟩ := hf
  have h41 := al1 w (.cells (pkA p) 31)
  have HBw := Lib.hid (bl_alloc w (.cells (pkA p) 31))
  have hsz1 : (w.alloc (.cells (pkA p) 31)).heap.size = w.heap.size + 1 := by simp
  have hp1 := hp.below HBw.out
  have HPE := Lib.hid hpe
  rw [hpe] at h41 HBw hsz1 hp1
  clear hpe
  go_enter Tryz.func25, Tryz.ntmps25
  go_upto_region 2 with (fail)
  generalize hW : World.alloc w _ = W0
  have h4 : W0.heap[w.heap.size]? = some (.cells (pkA ⟨⟨pr, s6, sh, sl, t6, th, tl, fp, tp⟩, hops, syn, fin, rst, has, seq, ack, reply, id_, pA, pn, pc⟩) 31 (0, 0)) := by rw [← hW]; exact h41
  have HBw : Hid (Below w.heap.size w W0) := Lib.hid (by rw [← hW]; exact HBw.out)
  have hsz : W0.heap.size = w.heap.size + 1 := by rw [← hW]; exact hsz1
  have HP : Hid (bAt W0 pA pay) := Lib.hid (by rw [← hW]; exact hp1)
  clear hW h41 hsz1 hp1 hp
  have H4 := Lib.hid h4
  have HSZ := Lib.hid hsz
  have HO0 : Hid (bOwn W0 W0.heap.size none 0 0 []) := Lib.hid (bOwn.nil _ _)
  have HG0 : Hid (Below W0.heap.size W0 W0) := Lib.hid (Below.refl _ _)
  have hlB : w.heap.size < W0.heap.size := lt_of_block h4
  have c7 : W0.cell? ⟨w.heap.size, 7, none⟩ = some (.int .i64 pr) := cell_of h4 7
  clear h4 hsz
  have e6 : (pr == 6) = false := by simpa using h6
  have e17 : (pr == 17) = false := by simpa using h17
  have HN6 := Lib.hid h6
  have HN17 := Lib.hid h17
  clear h6 h17
  have h4' := H4.out
  go_upto_region 3 with (fail)
  go_step
  go_step
  go_step
  first | refine load_step rfl h4' (by kernel_rfl) (by kernel_rfl) ?_ | (go_step; refine load_step rfl h4' (by kernel_rfl) (by kernel_rfl) ?_) | (go_step; go_step; refine load_step rfl h4' (by kernel_rfl) (by kernel_rfl) ?_)
  clear h4'
  go_wp2_with fail
  refine (kindOf_any ⟨⟨pr, s6, sh, sl, t6, th, tl, fp, tp⟩, hops, syn, fin, rst, has, seq, ack, reply, id_, pA, pn, pc⟩ _).mono ?_
  rintro e V1 ⟨rfl, hbv⟩
  have HO1 := Lib.hid (HO0.out.bl hbv)
  have HG1 := Lib.hid (HG0.out.trans (hbv.mono HG0.out.size))
  clear hbv
  generalize hfl : kindP ⟨⟨pr, s6, sh, sl, t6, th, tl, fp, tp⟩, hops, syn, fin, rst, has, seq, ack, reply, id_, pA, pn, pc⟩ = fl
  have HFL := Lib.hid hfl
  clear hfl
  go_wp2_with (at_builtin; refine wpList_app_b rfl (.tmp 6) (.tmp 9) rfl rfl (base := W0.heap.size) (A := none) (k := 0) (cap := 0) rfl (HO1.out.al _) (Nat.le_trans HG1.out.size (by simp)) (m := 4) (ys := [fl, 0, 0, 0]) rfl (bAt.new (heap_alloc_new V1 _) rfl) rfl (by simp) (by omega) ?_)
  intro A2 cap2 W2 ho2 hg2
  have HO2 := Lib.hid ho2
  have HG2 := Lib.hid (HG1.out.trans (((bGrow.refl V1 none).al _).trans hg2 |>.below HO1.out HG1.out.size))
  clear ho2 hg2
  go_upto_region 4 with (fail)
  have c17 : W2.cell? ⟨w.heap.size, 17, none⟩ = some (.int .i64 id_) := (HG2.out.cell (p := ⟨w.heap.size, 17, none⟩) (lt_of_block H4.out)).trans (cell_of H4.out 17)
  have c14 : W2.cell? ⟨w.heap.size, 14, none⟩ = some (.int .i64 seq) := (HG2.out.cell (p := ⟨w.heap.size, 14, none⟩) (lt_of_block H4.out)).trans (cell_of H4.out 14)
  have sw_id_ : IntKind.u64.wrap (id_ : Int) = (id_ : Int) := IntWalk.u64_in _ (by omega)
  have sw_seq : IntKind.u64.wrap (seq : Int) = (seq : Int) := IntWalk.u64_in _ (by omega)
  have hbw : W0.heap.size ≤ W2.drew.heap.size := HG2.out.size
  have HD : Hid (bOwn W2.drew W0.heap.size A2 4 cap2 _) := Lib.hid HO2.out
  have HK : Hid (∀ W' : World, Below W0.heap.size W2.drew W' → W'.cell? ⟨w.heap.size, 17, none⟩ = some (.int .i64 id_) ∧ W'.cell? ⟨w.heap.size, 14, none⟩ = some (.int .i64 seq)) := Lib.hid (fun W' hb => ⟨(hb.cell (p := ⟨w.heap.size, 17, none⟩) (lt_of_block H4.out)).trans c17, (hb.cell (p := ⟨w.heap.size, 14, none⟩) (lt_of_block H4.out)).trans c14⟩)
  go_region_held3 (fun w' => w'.cell? ⟨w.heap.size, 17, none⟩ = some (.int .i64 id_) ∧ w'.cell? ⟨w.heap.size, 14, none⟩ = some (.int .i64 seq)) ((repeat' apply And.intro) <;> (first | with_reducible assumption | with_reducible refine keepD ?_) <;> with_reducible assumption)
    (first
      | (have mk2 := mark1; go_at_call 37; refine (put_any W0.heap.size seq 2 (by omega) X1 6 xc1 _ _ ho1 (Nat.le_trans hbw hg1.1.size) (by omega)).mono ?_; rintro e W3 ⟨A3, cap3, rfl, ho2, hg2⟩; have hb2 := hb1.trans (hg2.below ho1 (Nat.le_trans hbw hg1.1.size)); have d17 : W3.cell? ⟨w.heap.size, 17, none⟩ = some (.int .i64 id_) := (HK.out W3 hb2).1; have d14 : W3.cell? ⟨w.heap.size, 14, none⟩ = some (.int .i64 seq) := (HK.out W3 hb2).2)
      | ((fail_if_success (have mk9 := mark1)); go_at_call 37; refine (put_any W0.heap.size id_ 2 (by omega) A2 4 cap2 _ _ HD.out hbw (by omega)).mono ?_; rintro e X ⟨X1, xc1, rfl, ho1, hg1⟩; have mark1 : True := trivial; have hb1 := hg1.below HD.out hbw; have d17 : X.cell? ⟨w.heap.size, 17, none⟩ = some (.int .i64 id_) := (HK.out X hb1).1; have d14 : X.cell? ⟨w.heap.size, 14, none⟩ = some (.int .i64 seq) := (HK.out X hb1).2))
  have HO3 := Lib.hid ho2
  have HG3 := Lib.hid (HG2.out.trans (show Below W0.heap.size W2 W3 from ⟨hb2.os, hb2.tape, hb2.output, hb2.size, hb2.block⟩))
  clear ho1 ho2 hg1 hg2 hb1 hb2 HD HK hbw c17 c14 d17 d14 sw_id_ sw_seq mark1 mk2
  have c18 : W3.cell? ⟨w.heap.size, 18, none⟩ = some (.slice pA pn pc) := (HG3.out.cell (p := ⟨w.heap.size, 18, none⟩) (lt_of_block H4.out)).trans (cell_of H4.out 18)
  have lB3 : w.heap.size < W3.heap.size := Nat.lt_of_lt_of_le hlB HG3.out.size
  go_wp2_with (at_builtin; refine wpList_app_b rfl (.tmp 66) (.tmp 68) rfl rfl (base := W0.heap.size) (A := A3) (k := 8) (cap := cap3) rfl HO3.out HG3.out.size (m := pn) (ys := pay) rfl (HP.out.below HG3.out) hl hn (by omega) ?_)
  intro A9 cap9 W9 ho2 hg2
  have HO9 := Lib.hid ho2
  have HG9 := Lib.hid (HG3.out.trans (hg2.below HO3.out HG3.out.size))
  clear ho2 hg2
  go_wp2_with fail
  go_ret
  refine ⟨A9, _, cap9, rfl, ?_, HBw.out.trans (HG9.out.mono HBw.out.size)⟩
  have hfin := HO9.out
  rw [HSZ.out] at hfin
  subst hl
  rw [HPE.out]
  have e : partP ⟨⟨pr, s6, sh, sl, t6, th, tl, fp, tp⟩, hops, syn, fin, rst, has, seq, ack, reply, id_, pA, pay.length, pc⟩ pay = [] ++ [fl, 0, 0, 0] ++ putN id_ 2 ++ putN seq 2 ++ pay := by rw [← HFL.out]; simp [partP, frontP, HN6.out, HN17.out]
  rw [e]
  exact hfin
end Go.Proofs.YtfakfhbcpldeoaaGreatDoor
