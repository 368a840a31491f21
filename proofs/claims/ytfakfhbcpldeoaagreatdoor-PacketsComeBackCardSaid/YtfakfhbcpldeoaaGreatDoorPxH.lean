/- Packets as bytes: write. -/
import Derived.Test.YtfakfhbcpldeoaaGreatDoorPxG
import Derived.Test.YtfakfhbcpldeoaaGreatDoorTkG
import Derived.Test.YtfakfhbcpldeoaaGreatDoorRgT
namespace Go.Proofs.YtfakfhbcpldeoaaGreatDoor
open Go.RowKit Go.Hw

theorem pk_six {p : Pk} {b : Bool} (h : p.f.s6 = b) (h2 : p.f.t6 = b) : pkA p = #[.bool b, .int .u64 p.f.sh, .int .u64 p.f.sl, .bool b, .int .u64 p.f.th, .int .u64 p.f.tl, .int .i64 p.hops, .int .i64 p.f.proto, .int .i64 p.f.fp, .int .i64 p.f.tp, .bool p.syn, .bool p.fin, .bool p.rst, .bool p.has, .int .i64 p.seq, .int .i64 p.ack, .bool p.reply, .int .i64 p.id, .slice p.pA p.pn p.pc] := by
  unfold pkA
  rw [h, h2]
set_option maxRecDepth 100000 in
set_option maxHeartbeats 4000000 in
theorem write_any (p : Pk) (h : PkOk p) (pay : List UInt8) (w : World) (hp : PayAt w p pay) :
    Calls Tryz.prog 17 #[.agg (pkA p)] w fun e w' => ∃ A n cap, e = .returned (.slice A n cap) ∧ bOwn w' (w.heap.size + 1) A n cap (writeP p pay) ∧ Below w.heap.size w w' := by
  have h41 := al1 w (.cells (pkA p) 31)
  have HBA := Lib.hid (bl_alloc w (.cells (pkA p) 31))
  have hsz1 : (w.alloc (.cells (pkA p) 31)).heap.size = w.heap.size + 1 := by simp
  have hp1 := hp.below HBA.out
  go_enter Tryz.func17, Tryz.ntmps17
  go_upto_region 1 with (fail)
  generalize hW : World.alloc w _ = W0
  have h4' : W0.heap[w.heap.size]? = some (.cells (pkA p) 31 (0, 0)) := by rw [← hW]; exact h41
  have HBw : Hid (Below w.heap.size w W0) := Lib.hid (by rw [← hW]; exact HBA.out)
  have hsz : W0.heap.size = w.heap.size + 1 := by rw [← hW]; exact hsz1
  have HP : Hid (PayAt W0 p pay) := Lib.hid (by rw [← hW]; exact hp1)
  clear hW h41 hsz1 hp1 hp HBA
  have H4 := Lib.hid h4'
  have HSZ := Lib.hid hsz
  have hlB : w.heap.size < W0.heap.size := lt_of_block h4'
  have HR := Lib.hid h.r
  clear hsz
  go_step
  go_step
  first | refine load_step rfl h4' (by kernel_rfl) (by kernel_rfl) ?_ | (go_step; refine load_step rfl h4' (by kernel_rfl) (by kernel_rfl) ?_)
  clear h4'
  go_wp2_with fail
  refine (partOf_any p HR.out pay W0 HP.out).mono ?_
  rintro e W1 ⟨A1, n1, cap1, rfl, ho1, hb1⟩
  have hlen := part_len p pay
  rw [ho1.1] at hlen
  have hpl := HP.out.len
  have hpe := HP.out.le
  have hat := ho1.at_
  obtain ⟨g1, rfl, hg1, hg1l, hnc⟩ := ho1.ex (by omega)
  have lB1 : w.heap.size < W1.heap.size := Nat.lt_of_lt_of_le hlB hb1.size
  have H41 : Hid (W1.heap[w.heap.size]? = some (.cells (pkA p) 31 (0, 0))) := Lib.hid ((hb1.block _ hlB).trans H4.out)
  have HAT := Lib.hid hat
  have hl1 := ho1.1
  have HO1 := Lib.hid ho1
  have HB1 := Lib.hid hb1
  clear ho1 hb1 hat
  go_upto_region 2 with (fail)
  go_cut [4, 5] from 9 to 14 (fun v4 v5 wc => v4 = .int .i64 (atP p.f.proto) ∧ v5 = .int .i64 (partSumP p (partP p pay)) ∧ Below W1.heap.size W1 wc)
  case first =>
    -- @R2 BEGIN
    refine wp_region_drawn 7 (fun f' => ⟨#[.agg (pkA p), .pointer (some ⟨w.heap.size, 0, none⟩), .slice none 0 0, .slice (some ⟨g1, 0, none⟩) n1 cap1, f' 6, undef, undef, .agg (pkA p), .slice (some ⟨g1, 0, none⟩) n1 cap1, f' 0, f' 1, f' 2, f' 3, f' 4, f' 5, undef, undef, undef, undef, undef, undef, undef, undef, undef, undef, undef, undef, undef, undef, undef, undef, undef, undef, undef, undef, undef, undef, undef, undef, undef, undef, undef, undef, undef, undef, undef, undef, undef, undef, undef, undef, undef, undef, undef, undef, undef, undef, undef, undef, undef, undef, undef, undef, undef, undef, undef, undef, undef, undef, undef, undef, undef, undef, undef, undef, undef, undef, undef, undef, undef, undef, undef, undef, undef, undef, undef, undef, undef, undef], []⟩) (VL [VIs (.pointer (some ⟨w.heap.size, 7, none⟩)), VIs (.int .i64 p.f.proto), VIs (.int .i64 (atP p.f.proto)), VIs (.agg (pkA p)), VIs (.slice (some ⟨g1, 0, none⟩) n1 cap1), VIs (.int .i64 (partSumP p (partP p pay))), VIs (.int .i64 (atP p.f.proto))]) (fun _ w' => Below W1.heap.size W1 w') (fun w w' => w.grownBy w' none) (fun _ => undef) (show Tryz.prog.follows .mixedOrders = true from by kernel_rfl) (by kernel_rfl) ?_ ?_ ?_ ((Below.refl _ _).drew)
    · exact fun i w w' v h hg => VL.stabG (Gr := fun w w' => w.grownBy w' none) (by
        intro q hq w w' v hv hg
        simp only [List.mem_cons, List.mem_nil_iff, or_false] at hq
        rcases hq with rfl | rfl | rfl | rfl | rfl | rfl | rfl <;> first | exact hv | (exact hv)) i w w' v h hg
    · intro i o hi ho f' w' k hk hG hd
      have h4w := (hG.block _ lB1).trans H41.out
      have c7 : w'.cell? ⟨w.heap.size, 7, none⟩ = some (.int .i64 p.f.proto) := cell_of h4w 7
      have HG := Lib.hid hG
      clear hG
      have hcase : i = 0 ∨ i = 1 ∨ i = 2 ∨ i = 3 ∨ i = 4 ∨ i = 5 ∨ i = 6 := by omega
      rcases hcase with rfl | rfl | rfl | rfl | rfl | rfl | rfl <;> (replace ho := Option.some.inj ho; subst ho)
      · unfold Oper.wp
        go_simp
        exact ⟨_, (by simp [upd]), rfl, HG.out, World.grownBy.refl _ _⟩
      · have e0 : f' 0 = _ := hd ⟨0, .data⟩ (by simp) rfl
        unfold Oper.wp
        go_simp
        exact ⟨_, (by simp [upd, e0]), rfl, HG.out, World.grownBy.refl _ _⟩
      · have e1 : f' 1 = _ := hd ⟨1, .data⟩ (by simp) rfl
        unfold Oper.wp
        go_simp
        refine (sumAt_any p.f.proto _).mono ?_
        rintro e w9 ⟨rfl, rfl⟩
        exact ⟨_, (by simp [upd, e1]), rfl, HG.out, World.grownBy.refl _ _⟩
      · refine load_step rfl h4w (by kernel_rfl) (by kernel_rfl) ?_
        exact ⟨_, rfl, rfl, HG.out, World.grownBy.refl _ _⟩
      · unfold Oper.wp
        go_simp
        exact ⟨_, (by simp [upd]), rfl, HG.out, World.grownBy.refl _ _⟩
      · have e3 : f' 3 = _ := hd ⟨3, .data⟩ (by simp) rfl
        have e4 : f' 4 = _ := hd ⟨4, .data⟩ (by simp) rfl
        unfold Oper.wp
        go_simp
        refine (partSum_any p HR.out (some ⟨g1, 0, none⟩) n1 cap1 (partP p pay) _ (HAT.out.below HG.out) hl1 (by simp) (by omega)).mono ?_
        rintro e W5 ⟨rfl, hb5⟩
        exact ⟨_, (by simp [upd, e3, e4]), rfl, HG.out.trans (hb5.mono HG.out.size), grownB hb5 none⟩
      · have e2 : f' 2 = _ := hd ⟨2, .data⟩ (by simp) rfl
        unfold Oper.wp
        go_simp
        exact ⟨_, (by simp [upd, e2]), rfl, HG.out, World.grownBy.refl _ _⟩
    · intro o ho f' w' k hk hG hd
      have h4w := (hG.block _ lB1).trans H41.out
      have c7 : w'.cell? ⟨w.heap.size, 7, none⟩ = some (.int .i64 p.f.proto) := cell_of h4w 7
      have HG := Lib.hid hG
      clear hG
      have e5 : f' 5 = _ := hd 5 (by omega)
      have e6 : f' 6 = _ := hd 6 (by omega)
      replace ho := Option.some.inj ho
      subst ho
      unfold Oper.wp
      go_simp
      go_step
      go_meet
      first | exact ⟨rfl, rfl, HG.out⟩ | exact ⟨e6, rfl, HG.out⟩
    -- @R2 END
  case rest =>
    obtain ⟨rfl, rfl, hb2⟩ := hcut
    have hlt := partSumP_lt p (partP p pay)
    obtain ⟨sm, hsm⟩ : ∃ n : Nat, partSumP p (partP p pay) = n := ⟨_, rfl⟩
    obtain ⟨at_, hat_⟩ : ∃ n : Nat, atP p.f.proto = n := ⟨_, rfl⟩
    have HPW : Hid (partW p pay = ((partP p pay).set at_ (UInt8.ofNat (sm / 256))).set (at_ + 1) (UInt8.ofNat sm)) := Lib.hid (by unfold partW put2; rw [hat_, hsm])
    rw [hsm] at hlt ⊢
    rw [hat_] at hlen ⊢
    obtain ⟨b1, hb1'⟩ : ∃ c : UInt8, UInt8.ofNat (sm / 256) = c := ⟨_, rfl⟩
    obtain ⟨b2, hb2'⟩ : ∃ c : UInt8, UInt8.ofNat sm = c := ⟨_, rfl⟩
    have t1 : IntKind.u8.wrap ((sm : Int) / 256) = ((b1.toNat : Nat) : Int) := by rw [← hb1']; exact byte_hi sm
    have t2 : IntKind.u8.wrap (sm : Int) = ((b2.toNat : Nat) : Int) := by rw [← hb2']; exact byte_lo sm
    have t3 : IntKind.i64.wrap ((at_ : Int) + 1) = (at_ : Int) + 1 := IntWalk.i64_in _ (by omega)
    rw [hb1', hb2'] at HPW
    have ho2 := HO1.out.bl hb2
    have HO3 : Hid (bOwn ((wc.setCell ⟨g1, at_, none⟩ (.int .u8 b1.toNat)).setCell ⟨g1, at_ + 1, none⟩ (.int .u8 b2.toNat)) (W0.heap.size + 1) (some ⟨g1, 0, none⟩) n1 cap1 (partW p pay)) := Lib.hid (by rw [HPW.out]; exact (ho2.put at_ b1).put (at_ + 1) b2)
    obtain ⟨x1, hx1⟩ := ho2.cell at_ (by omega)
    obtain ⟨x2, hx2⟩ := ho2.cell (at_ + 1) (by omega)
    have f1 := ho2.froz at_
    have f2 := ho2.froz (at_ + 1)
    have d1 : (at_ : Int) < (n1 : Int) := by omega
    have d2 : (at_ : Int) + 1 < (n1 : Int) := by omega
    have d3 : ((at_ : Int) + 1).toNat = at_ + 1 := by omega
    have d4 : (0 : Int) ≤ (at_ : Int) + 1 := by omega
    have gl : g1 < wc.heap.size := Nat.lt_of_lt_of_le hg1l hb2.size
    have HB2 := Lib.hid (HB1.out.trans (hb2.mono HB1.out.size))
    clear hb2 ho2 hsm hat_ hb1' hb2'
    go_upto_region 4 with (fail)
    have HBZ : Hid (Below W0.heap.size W0 ((wc.setCell ⟨g1, at_, none⟩ (.int .u8 b1.toNat)).setCell ⟨g1, at_ + 1, none⟩ (.int .u8 b2.toNat))) := Lib.hid (bl_set (bl_set HB2.out (by omega)) (by omega))
    generalize hW : World.setCell _ _ _ = Z3 at HO3 HBZ ⊢
    clear hW HB2 hx1 hx2 f1 f2 gl d1 d2 d3 d4 t1 t2 t3
    have H4z : Hid (Z3.heap[w.heap.size]? = some (.cells (pkA p) 31 (0, 0))) := Lib.hid ((HBZ.out.block _ hlB).trans H4.out)
    have hlBz : w.heap.size < Z3.heap.size := Nat.lt_of_lt_of_le hlB HBZ.out.size
    have HPT : Hid (bAt Z3 (some ⟨g1, 0, none⟩) (partW p pay)) := Lib.hid HO3.out.at_
    have hpl3 := HO3.out.1
    have c0 : Z3.cell? ⟨w.heap.size, 0, none⟩ = some (.bool p.f.s6) := cell_of H4z.out 0
    obtain ⟨r1, r2, ⟨a1, a2, a3, a4⟩, r3, r4, r5, r6, r7, r8⟩ := HR.out
    cases h6 : p.f.s6
    · rw [h6] at c0
      have HH6 := Lib.hid h6
      clear h6
      -- @FOUR BEGIN
      obtain ⟨q, hq⟩ : ∃ q : Nat, q = 20 + n1 := ⟨_, rfl⟩
      have s1 : IntKind.i64.wrap (20 + (n1 : Int)) = 20 + (n1 : Int) := IntWalk.i64_in _ (by omega)
      have s2 : IntKind.u64.wrap (20 + (n1 : Int)) = (q : Int) := (IntWalk.u64_in _ (by omega)).trans (by omega)
      have HQ := Lib.hid hq
      clear hq
      obtain ⟨c8, hc8⟩ : ∃ c : UInt8, UInt8.ofNat p.f.proto.toNat = c := ⟨_, rfl⟩
      obtain ⟨c9, hc9⟩ : ∃ c : UInt8, UInt8.ofNat p.hops.toNat = c := ⟨_, rfl⟩
      have hw8 : IntKind.u8.wrap p.f.proto = ((c8.toNat : Nat) : Int) := by rw [← hc8, IntWalk.u8_in _ (by omega), UInt8.toNat_ofNat']; omega
      have hw9 : IntKind.u8.wrap p.hops = ((c9.toNat : Nat) : Int) := by rw [← hc9, IntWalk.u8_in _ (by omega), UInt8.toNat_ofNat']; omega
      have HC8 := Lib.hid hc8
      have HC9 := Lib.hid hc9
      clear hc8 hc9
      have HO1 := Lib.hid (bOwn.new (w := Z3) (base := Z3.heap.size) (cs := #[.int .u8 69, .int .u8 0]) (ys := [69, 0]) (n := 2) rfl (Nat.le_refl _) rfl (by omega))
      have HG1 := Lib.hid (bl_alloc Z3 (.cells #[.int .u8 69, .int .u8 0] 5))
      go_upto_region 9 with (fail)
      go_wp2_with fail
      refine (put_any Z3.heap.size q 2 (by omega) (some ⟨Z3.heap.size, 0, none⟩) 2 2 _ _ HO1.out HG1.out.size (by omega)).mono ?_
      rintro e W2 ⟨A2, cap2, rfl, ho2, hg2⟩
      have HO2 := Lib.hid ho2
      have HG2 := Lib.hid (HG1.out.trans (hg2.below HO1.out HG1.out.size))
      clear ho2 hg2
      have H4z : Hid (Z3.heap[w.heap.size]? = some (.cells #[.bool false, .int .u64 p.f.sh, .int .u64 p.f.sl, .bool false, .int .u64 p.f.th, .int .u64 p.f.tl, .int .i64 p.hops, .int .i64 p.f.proto, .int .i64 p.f.fp, .int .i64 p.f.tp, .bool p.syn, .bool p.fin, .bool p.rst, .bool p.has, .int .i64 p.seq, .int .i64 p.ack, .bool p.reply, .int .i64 p.id, .slice p.pA p.pn p.pc] 31 (0, 0))) := Lib.hid (by rw [← pk_six HH6.out (r2.trans HH6.out)]; exact H4z.out)
      have c6 : W2.cell? ⟨w.heap.size, 6, none⟩ = some (.int .i64 p.hops) := (HG2.out.cell (p := ⟨w.heap.size, 6, none⟩) (lt_of_block H4z.out)).trans (cell_of H4z.out 6)
      have c7 : W2.cell? ⟨w.heap.size, 7, none⟩ = some (.int .i64 p.f.proto) := (HG2.out.cell (p := ⟨w.heap.size, 7, none⟩) (lt_of_block H4z.out)).trans (cell_of H4z.out 7)
      have lB2 : w.heap.size < W2.heap.size := Nat.lt_of_lt_of_le hlBz HG2.out.size
      go_wp2_with (at_builtin; refine wpList_app_b rfl (.tmp 59) (.tmp 66) rfl rfl (base := Z3.heap.size) (A := A2) (k := 4) (cap := cap2) rfl (HO2.out.al _) (Nat.le_trans HG2.out.size (by simp)) (m := 8) (ys := [0, 0, 0, 0, c9, c8, 0, 0]) rfl (bAt.new (heap_alloc_new W2 _) rfl) rfl (by simp) (by omega) ?_)
      intro A3 cap3 W3 ho2 hg2
      have HO3 := Lib.hid ho2
      have HG3 := Lib.hid (HG2.out.trans (((bGrow.refl W2 A2).al _).trans hg2 |>.below HO2.out HG2.out.size))
      clear ho2 hg2
      clear c6 c7 s1 s2 hw8 hw9
      go_upto_region 11 with (fail)
      have c0 : W3.cell? ⟨w.heap.size, 0, none⟩ = some (.bool false) := (HG3.out.cell (p := ⟨w.heap.size, 0, none⟩) (lt_of_block H4z.out)).trans (cell_of H4z.out 0)
      have c1 : W3.cell? ⟨w.heap.size, 1, none⟩ = some (.int .u64 p.f.sh) := (HG3.out.cell (p := ⟨w.heap.size, 1, none⟩) (lt_of_block H4z.out)).trans (cell_of H4z.out 1)
      have c2 : W3.cell? ⟨w.heap.size, 2, none⟩ = some (.int .u64 p.f.sl) := (HG3.out.cell (p := ⟨w.heap.size, 2, none⟩) (lt_of_block H4z.out)).trans (cell_of H4z.out 2)
      have c3 : W3.cell? ⟨w.heap.size, 3, none⟩ = some (.bool false) := (HG3.out.cell (p := ⟨w.heap.size, 3, none⟩) (lt_of_block H4z.out)).trans (cell_of H4z.out 3)
      have c4 : W3.cell? ⟨w.heap.size, 4, none⟩ = some (.int .u64 p.f.th) := (HG3.out.cell (p := ⟨w.heap.size, 4, none⟩) (lt_of_block H4z.out)).trans (cell_of H4z.out 4)
      have c5 : W3.cell? ⟨w.heap.size, 5, none⟩ = some (.int .u64 p.f.tl) := (HG3.out.cell (p := ⟨w.heap.size, 5, none⟩) (lt_of_block H4z.out)).trans (cell_of H4z.out 5)
      have hbw : Z3.heap.size ≤ W3.heap.size := HG3.out.size
      have HD0 : Hid (∀ W' : World, Below W3.heap.size W3 W' → bOwn W' Z3.heap.size A3 12 cap3 _ ∧ Below Z3.heap.size Z3 W') := Lib.hid (fun W' hb => ⟨HO3.out.bl hb, HG3.out.trans (hb.mono hbw)⟩)
      have HK : Hid (∀ W' : World, Below Z3.heap.size Z3 W' → W'.cell? ⟨w.heap.size, 0, none⟩ = some (.bool false) ∧ W'.cell? ⟨w.heap.size, 1, none⟩ = some (.int .u64 p.f.sh) ∧ W'.cell? ⟨w.heap.size, 2, none⟩ = some (.int .u64 p.f.sl) ∧ W'.cell? ⟨w.heap.size, 3, none⟩ = some (.bool false) ∧ W'.cell? ⟨w.heap.size, 4, none⟩ = some (.int .u64 p.f.th) ∧ W'.cell? ⟨w.heap.size, 5, none⟩ = some (.int .u64 p.f.tl)) := Lib.hid (fun W' hb => ⟨(hb.cell (p := ⟨w.heap.size, 0, none⟩) (lt_of_block H4z.out)).trans (cell_of H4z.out 0), (hb.cell (p := ⟨w.heap.size, 1, none⟩) (lt_of_block H4z.out)).trans (cell_of H4z.out 1), (hb.cell (p := ⟨w.heap.size, 2, none⟩) (lt_of_block H4z.out)).trans (cell_of H4z.out 2), (hb.cell (p := ⟨w.heap.size, 3, none⟩) (lt_of_block H4z.out)).trans (cell_of H4z.out 3), (hb.cell (p := ⟨w.heap.size, 4, none⟩) (lt_of_block H4z.out)).trans (cell_of H4z.out 4), (hb.cell (p := ⟨w.heap.size, 5, none⟩) (lt_of_block H4z.out)).trans (cell_of H4z.out 5)⟩)
      go_region_held3 (fun w' => w'.cell? ⟨w.heap.size, 0, none⟩ = some (.bool false) ∧ w'.cell? ⟨w.heap.size, 1, none⟩ = some (.int .u64 p.f.sh) ∧ w'.cell? ⟨w.heap.size, 2, none⟩ = some (.int .u64 p.f.sl) ∧ w'.cell? ⟨w.heap.size, 3, none⟩ = some (.bool false) ∧ w'.cell? ⟨w.heap.size, 4, none⟩ = some (.int .u64 p.f.th) ∧ w'.cell? ⟨w.heap.size, 5, none⟩ = some (.int .u64 p.f.tl)) ((repeat' apply And.intro) <;> (repeat (first | with_reducible assumption | with_reducible refine keepD ?_ | with_reducible refine keepA ?_)))
        (first
          | (have mk2 := mark1; go_at_call 39; refine (putAddr4 Z3.heap.size p.f.th p.f.tl a3 a4 X1 16 xc1 _ _ (HD1.out _ (by first | exact Below.refl _ _ | exact (Below.refl _ _).drew | exact bl_alloc _ _ | exact ((Below.refl _ _).drew).alloc (Nat.le_refl _) _)).1 ((HD1.out _ (by first | exact Below.refl _ _ | exact (Below.refl _ _).drew | exact bl_alloc _ _ | exact ((Below.refl _ _).drew).alloc (Nat.le_refl _) _)).2.size) (by omega)).mono ?_; rintro e W4 ⟨A4, cap4, rfl, ho2, hg2⟩; have mark2 : True := trivial; have hb2 : Below Z3.heap.size Z3 W4 := ((HD1.out _ (by first | exact Below.refl _ _ | exact (Below.refl _ _).drew | exact bl_alloc _ _ | exact ((Below.refl _ _).drew).alloc (Nat.le_refl _) _)).2).trans (hg2.below (HD1.out _ (by first | exact Below.refl _ _ | exact (Below.refl _ _).drew | exact bl_alloc _ _ | exact ((Below.refl _ _).drew).alloc (Nat.le_refl _) _)).1 (HD1.out _ (by first | exact Below.refl _ _ | exact (Below.refl _ _).drew | exact bl_alloc _ _ | exact ((Below.refl _ _).drew).alloc (Nat.le_refl _) _)).2.size); have HD2 : Hid (∀ W' : World, Below W4.heap.size W4 W' → bOwn W' Z3.heap.size A4 20 cap4 _ ∧ Below Z3.heap.size Z3 W') := Lib.hid (fun W' hb => ⟨ho2.bl hb, hb2.trans (hb.mono hb2.size)⟩); have hk := HK.out W4 hb2; have d0 : W4.cell? ⟨w.heap.size, 0, none⟩ = some (.bool false) := hk.1; have d1 : W4.cell? ⟨w.heap.size, 1, none⟩ = some (.int .u64 p.f.sh) := hk.2.1; have d2 : W4.cell? ⟨w.heap.size, 2, none⟩ = some (.int .u64 p.f.sl) := hk.2.2.1; have d3 : W4.cell? ⟨w.heap.size, 3, none⟩ = some (.bool false) := hk.2.2.2.1; have d4 : W4.cell? ⟨w.heap.size, 4, none⟩ = some (.int .u64 p.f.th) := hk.2.2.2.2.1; have d5 : W4.cell? ⟨w.heap.size, 5, none⟩ = some (.int .u64 p.f.tl) := hk.2.2.2.2.2)
          | ((fail_if_success (have mk9 := mark1)); go_at_call 39; refine (putAddr4 Z3.heap.size p.f.sh p.f.sl a1 a2 A3 12 cap3 _ _ (HD0.out _ (by first | exact Below.refl _ _ | exact (Below.refl _ _).drew | exact bl_alloc _ _ | exact ((Below.refl _ _).drew).alloc (Nat.le_refl _) _)).1 ((HD0.out _ (by first | exact Below.refl _ _ | exact (Below.refl _ _).drew | exact bl_alloc _ _ | exact ((Below.refl _ _).drew).alloc (Nat.le_refl _) _)).2.size) (by omega)).mono ?_; rintro e V1 ⟨X1, xc1, rfl, ho1, hg1⟩; have mark1 : True := trivial; have hb1 : Below Z3.heap.size Z3 V1 := ((HD0.out _ (by first | exact Below.refl _ _ | exact (Below.refl _ _).drew | exact bl_alloc _ _ | exact ((Below.refl _ _).drew).alloc (Nat.le_refl _) _)).2).trans (hg1.below (HD0.out _ (by first | exact Below.refl _ _ | exact (Below.refl _ _).drew | exact bl_alloc _ _ | exact ((Below.refl _ _).drew).alloc (Nat.le_refl _) _)).1 (HD0.out _ (by first | exact Below.refl _ _ | exact (Below.refl _ _).drew | exact bl_alloc _ _ | exact ((Below.refl _ _).drew).alloc (Nat.le_refl _) _)).2.size); have HD1 : Hid (∀ W' : World, Below V1.heap.size V1 W' → bOwn W' Z3.heap.size X1 16 xc1 _ ∧ Below Z3.heap.size Z3 W') := Lib.hid (fun W' hb => ⟨ho1.bl hb, hb1.trans (hb.mono hb1.size)⟩); have hk := HK.out V1 hb1; have d0 : V1.cell? ⟨w.heap.size, 0, none⟩ = some (.bool false) := hk.1; have d1 : V1.cell? ⟨w.heap.size, 1, none⟩ = some (.int .u64 p.f.sh) := hk.2.1; have d2 : V1.cell? ⟨w.heap.size, 2, none⟩ = some (.int .u64 p.f.sl) := hk.2.2.1; have d3 : V1.cell? ⟨w.heap.size, 3, none⟩ = some (.bool false) := hk.2.2.2.1; have d4 : V1.cell? ⟨w.heap.size, 4, none⟩ = some (.int .u64 p.f.th) := hk.2.2.2.2.1; have d5 : V1.cell? ⟨w.heap.size, 5, none⟩ = some (.int .u64 p.f.tl) := hk.2.2.2.2.2))
      have HO4 := Lib.hid ho2
      have HG4 := Lib.hid hb2
      clear HK HD0 HD1 HD2 ho1 hg1 hb1 ho2 hg2 hb2 c0 d0 c1 d1 c2 d2 c3 d3 c4 d4 c5 d5 hbw hk mark1 mark2
      obtain ⟨all, hall⟩ : ∃ all : List UInt8, [69, 0] ++ putN q 2 ++ [0, 0, 0, 0, c9, c8, 0, 0] ++ addrP false p.f.sh p.f.sl ++ addrP false p.f.th p.f.tl = all := ⟨_, rfl⟩
      have ho5 : bOwn W4 Z3.heap.size A4 20 cap4 all := by rw [← hall]; simpa using HO4.out
      have HALL := Lib.hid hall
      clear hall
      have hsum := sum_any2 A4 cap4 all W4 ho5.at_ (by have := ho5.1; omega)
      rw [ho5.1] at hsum
      obtain ⟨g5, rfl, hg5, hg5l, hn5⟩ := ho5.ex (by omega)
      have hlt5 : sumP all < 65536 := sumP_lt all
      obtain ⟨s5, hs5⟩ : ∃ n : Nat, sumP all = n := ⟨_, rfl⟩
      rw [hs5] at hsum hlt5
      obtain ⟨b3, hb3'⟩ : ∃ c : UInt8, UInt8.ofNat (s5 / 256) = c := ⟨_, rfl⟩
      obtain ⟨b4, hb4'⟩ : ∃ c : UInt8, UInt8.ofNat s5 = c := ⟨_, rfl⟩
      have t1 : IntKind.u8.wrap ((s5 : Int) / 256) = ((b3.toNat : Nat) : Int) := by rw [← hb3']; exact byte_hi s5
      have t2 : IntKind.u8.wrap (s5 : Int) = ((b4.toNat : Nat) : Int) := by rw [← hb4']; exact byte_lo s5
      obtain ⟨x1, hx1⟩ := ho5.cell 10 (by omega)
      obtain ⟨x2, hx2⟩ := ho5.cell 11 (by omega)
      have f1 := ho5.froz 10
      have f2 := ho5.froz 11
      have HO8 : Hid (bOwn ((W4.setCell ⟨g5, 10, none⟩ (.int .u8 b3.toNat)).setCell ⟨g5, 11, none⟩ (.int .u8 b4.toNat)) Z3.heap.size (some ⟨g5, 0, none⟩) 20 cap4 (put2 all 10 (sumP all))) := Lib.hid (by
        have e : put2 all 10 (sumP all) = (all.set 10 b3).set 11 b4 := by unfold put2; rw [hs5, hb3', hb4']
        rw [e]; exact (ho5.put 10 b3).put 11 b4)
      have HG8 : Hid (Below Z3.heap.size Z3 ((W4.setCell ⟨g5, 10, none⟩ (.int .u8 b3.toNat)).setCell ⟨g5, 11, none⟩ (.int .u8 b4.toNat))) := Lib.hid (bl_set (bl_set HG4.out (by omega)) (by omega))
      clear ho5 hs5 hb3' hb4'
      go_upto_region 12 with (fail)
      go_wp2_with fail
      refine hsum.mono ?_
      rintro e w9 ⟨rfl, rfl⟩
      clear hsum
      go_upto_region 14 with (fail)
      generalize hW8 : World.setCell _ _ _ = W8 at HO8 HG8 ⊢
      clear hW8 hx1 hx2 f1 f2 t1 t2
      go_wp2_with (at_builtin; refine wpList_app_b rfl (.tmp 86) (.tmp 87) rfl rfl (base := Z3.heap.size) (A := some ⟨g5, 0, none⟩) (k := 20) (cap := cap4) rfl HO8.out HG8.out.size (m := n1) (ys := partW p pay) rfl (HPT.out.below HG8.out) hpl3 (by simp) (by omega) ?_)
      intro A9 cap9 W9 ho9 hg9
      have e : put2 all 10 (sumP all) ++ partW p pay = writeP p pay := by
        have eh : head4 p n1 = all := by rw [← HALL.out]; unfold head4; rw [HC8.out, HC9.out, r2, HH6.out, HQ.out]
        unfold writeP
        rw [if_neg (by rw [HH6.out]; decide), hpl3, eh]
      have hfin : bOwn W9 (w.heap.size + 1) A9 (20 + n1) cap9 (writeP p pay) := by
        rw [← e]
        exact ⟨ho9.1, own_base ho9.2 (by have := HBZ.out.size; have := HSZ.out; omega)⟩
      have HFIN := Lib.hid (And.intro hfin (HBw.out.trans ((HBZ.out.trans ((HG8.out.trans (hg9.below HO8.out HG8.out.size)).mono HBZ.out.size)).mono HBw.out.size)))
      clear hfin e ho9 hg9
      go_wp2_with fail
      go_ret
      exact ⟨_, _, _, rfl, HFIN.out.1, HFIN.out.2⟩
      -- @FOUR END
    · rw [h6] at c0
      have HH6 := Lib.hid h6
      clear h6
      go_upto_region 6 with (fail)
      -- @SIX1 BEGIN
      have s1 : IntKind.u64.wrap (n1 : Int) = (n1 : Int) := IntWalk.u64_in _ (by omega)
      have HO1 := Lib.hid (bOwn.new (w := Z3) (base := Z3.heap.size) (cs := #[.int .u8 96, .int .u8 0, .int .u8 0, .int .u8 0]) (ys := [96, 0, 0, 0]) (n := 4) rfl (Nat.le_refl _) rfl (by omega))
      have HG1 := Lib.hid (bl_alloc Z3 (.cells #[.int .u8 96, .int .u8 0, .int .u8 0, .int .u8 0] 5))
      go_wp2_with fail
      refine (put_any Z3.heap.size n1 2 (by omega) (some ⟨Z3.heap.size, 0, none⟩) 4 4 _ _ HO1.out HG1.out.size (by omega)).mono ?_
      rintro e W2 ⟨A2, cap2, rfl, ho2, hg2⟩
      have HO2 := Lib.hid ho2
      have HG2 := Lib.hid (HG1.out.trans (hg2.below HO1.out HG1.out.size))
      clear ho2 hg2
      -- @SIX1 END
      -- @SIX2 BEGIN
      obtain ⟨wn, hwn⟩ : ∃ n : Int, wireP p = n := ⟨_, rfl⟩
      have hw0 : 0 ≤ wn ∧ wn ≤ 255 := by rw [← hwn]; unfold wireP; split <;> omega
      obtain ⟨c8, hc8⟩ : ∃ c : UInt8, UInt8.ofNat wn.toNat = c := ⟨_, rfl⟩
      obtain ⟨c9, hc9⟩ : ∃ c : UInt8, UInt8.ofNat p.hops.toNat = c := ⟨_, rfl⟩
      have hw8 : IntKind.u8.wrap wn = ((c8.toNat : Nat) : Int) := by rw [← hc8, IntWalk.u8_in _ (by omega), UInt8.toNat_ofNat']; omega
      have hw9 : IntKind.u8.wrap p.hops = ((c9.toNat : Nat) : Int) := by rw [← hc9, IntWalk.u8_in _ (by omega), UInt8.toNat_ofNat']; omega
      have HC8 : Hid (UInt8.ofNat (wireP p).toNat = c8) := Lib.hid (by rw [hwn]; exact hc8)
      have HC9 := Lib.hid hc9
      have HWN := Lib.hid hwn
      clear hc8 hc9 hwn
      go_upto_region 7 with (fail)
      have hl2 : Z3.heap.size ≤ W2.heap.size := HG2.out.size
      go_cut [6] from 35 to 43 (fun v6 wc => ∃ A3 cap3, v6 = .slice A3 8 cap3 ∧ bOwn wc Z3.heap.size A3 8 cap3 ([96, 0, 0, 0] ++ putN n1 2 ++ [c8, c9]) ∧ Below Z3.heap.size Z3 wc)
      case first =>
        refine wp_region_tail 8 (fun f' => ⟨#[.agg (pkA p), .pointer (some ⟨w.heap.size, 0, none⟩), .slice none 0 0, .slice (some ⟨g1, 0, none⟩) n1 cap1, .int .i64 at_, .int .i64 sm, .slice A2 6 cap2, .agg (pkA p), .slice (some ⟨g1, 0, none⟩) n1 cap1, u9, u10, u11, u12, u13, u14, .slice (some ⟨g1, 0, none⟩) n1 cap1, .int .i64 at_, .slice (some ⟨g1, 0, none⟩) n1 cap1, .int .i64 at_, .int .i64 ((at_ : Int) + 1), .int .i64 sm, .int .i64 ((sm : Int) / 256), .int .u8 b1.toNat, .int .i64 sm, .int .u8 b2.toNat, .pointer (some ⟨g1, at_, none⟩), .pointer (some ⟨g1, at_ + 1, none⟩), .pointer (some ⟨w.heap.size, 0, none⟩), .pointer (some ⟨w.heap.size, 0, none⟩), .bool true, .slice (some ⟨Z3.heap.size, 0, none⟩) 4 4, .slice (some ⟨g1, 0, none⟩) n1 cap1, .int .i64 n1, .int .u64 n1, .slice A2 (4 + 2) cap2, f' 0, f' 1, f' 2, f' 3, f' 4, f' 5, f' 6, f' 7, undef, undef, undef, undef, undef, undef, undef, undef, undef, undef, undef, undef, undef, undef, undef, undef, undef, undef, undef, undef, undef, undef, undef, undef, undef, undef, undef, undef, undef, undef, undef, undef, undef, undef, undef, undef, undef, undef, undef, undef, undef, undef, undef, undef, undef, undef], []⟩) (VL [VIs (.slice A2 6 cap2), VIs (.agg (pkA p)), VIs (.int .i64 wn), VIs (.int .u8 c8.toNat), VIs (.pointer (some ⟨w.heap.size, 6, none⟩)), VIs (.int .i64 p.hops), VIs (.int .u8 c9.toNat), (fun w' v => ∃ g, v = .slice (some ⟨g, 0, none⟩) 2 2 ∧ w'.heap[g]? = some (.cells #[.int .u8 c8.toNat, .int .u8 c9.toNat] 5 (0, 0)))]) (fun _ w' => Below W2.heap.size W2 w') (fun w w' => w.grownBy w' none) (fun _ => undef) (fun a' w' => ∃ (A3 : Option Addr) (cap3 : Nat) (f' : Nat → Value), a' = ⟨#[.agg (pkA p), .pointer (some ⟨w.heap.size, 0, none⟩), .slice none 0 0, .slice (some ⟨g1, 0, none⟩) n1 cap1, .int .i64 at_, .int .i64 sm, .slice A2 6 cap2, .agg (pkA p), .slice (some ⟨g1, 0, none⟩) n1 cap1, u9, u10, u11, u12, u13, u14, .slice (some ⟨g1, 0, none⟩) n1 cap1, .int .i64 at_, .slice (some ⟨g1, 0, none⟩) n1 cap1, .int .i64 at_, .int .i64 ((at_ : Int) + 1), .int .i64 sm, .int .i64 ((sm : Int) / 256), .int .u8 b1.toNat, .int .i64 sm, .int .u8 b2.toNat, .pointer (some ⟨g1, at_, none⟩), .pointer (some ⟨g1, at_ + 1, none⟩), .pointer (some ⟨w.heap.size, 0, none⟩), .pointer (some ⟨w.heap.size, 0, none⟩), .bool true, .slice (some ⟨Z3.heap.size, 0, none⟩) 4 4, .slice (some ⟨g1, 0, none⟩) n1 cap1, .int .i64 n1, .int .u64 n1, .slice A2 (4 + 2) cap2, f' 0, f' 1, f' 2, f' 3, f' 4, f' 5, f' 6, f' 7, .slice A3 (6 + 2) cap3, undef, undef, undef, undef, undef, undef, undef, undef, undef, undef, undef, undef, undef, undef, undef, undef, undef, undef, undef, undef, undef, undef, undef, undef, undef, undef, undef, undef, undef, undef, undef, undef, undef, undef, undef, undef, undef, undef, undef, undef, undef, undef, undef, undef, undef], []⟩ ∧ bOwn w' Z3.heap.size A3 8 cap3 ([96, 0, 0, 0] ++ putN n1 2 ++ [c8, c9]) ∧ Below Z3.heap.size Z3 w') (show Tryz.prog.follows .mixedOrders = true from by kernel_rfl) (by kernel_rfl) ?_ ?_ ?_ ?_ ((Below.refl _ _).drew)
        · exact fun i w w' v h hg => VL.stabG (Gr := fun w w' => w.grownBy w' none) (by
            intro q hq w w' v hv hg
            simp only [List.mem_cons, List.mem_nil_iff, or_false] at hq
            rcases hq with rfl | rfl | rfl | rfl | rfl | rfl | rfl | rfl <;> first | exact hv | (obtain ⟨g, h1, h2⟩ := hv; exact ⟨g, h1, (hg.block g (lt_of_block h2) (by simp)).trans h2⟩)) i w w' v h hg
        · intro i o hi ho f' w' k hk hG hd
          have hZ : Below Z3.heap.size Z3 w' := HG2.out.trans (hG.mono hl2)
          have h4w := (hZ.block _ hlBz).trans H4z.out
          have c6 : w'.cell? ⟨w.heap.size, 6, none⟩ = some (.int .i64 p.hops) := cell_of h4w 6
          have HG := Lib.hid hG
          have HZ := Lib.hid hZ
          clear hG hZ
          have hcase : i = 0 ∨ i = 1 ∨ i = 2 ∨ i = 3 ∨ i = 4 ∨ i = 5 ∨ i = 6 ∨ i = 7 := by omega
          rcases hcase with rfl | rfl | rfl | rfl | rfl | rfl | rfl | rfl <;> (replace ho := Option.some.inj ho; subst ho)
          · refine ⟨rfl, ?_⟩
            unfold Oper.wp
            go_simp
            exact ⟨_, (by simp [upd]), rfl, HG.out, World.grownBy.refl _ _⟩
          · refine ⟨rfl, ?_⟩
            refine load_step rfl h4w (by kernel_rfl) (by kernel_rfl) ?_
            exact ⟨_, rfl, rfl, HG.out, World.grownBy.refl _ _⟩
          · have e1 : f' 1 = _ := hd ⟨1, .data⟩ (by simp) rfl
            refine ⟨rfl, ?_⟩
            unfold Oper.wp
            go_simp
            refine (wire_any p _).mono ?_
            rintro e W5 ⟨rfl, hb5⟩
            exact ⟨_, (by simp [upd, e1, HWN.out]), rfl, HG.out.trans (hb5.mono HG.out.size), grownB hb5 none⟩
          · have e2 : f' 2 = _ := hd ⟨2, .data⟩ (by simp) rfl
            refine ⟨rfl, ?_⟩
            unfold Oper.wp
            go_simp
            exact ⟨_, (by simp [upd, e2]), rfl, HG.out, World.grownBy.refl _ _⟩
          · refine ⟨rfl, ?_⟩
            unfold Oper.wp
            go_simp
            exact ⟨_, (by simp [upd]), rfl, HG.out, World.grownBy.refl _ _⟩
          · have e4 : f' 4 = _ := hd ⟨4, .data⟩ (by simp) rfl
            refine ⟨rfl, ?_⟩
            unfold Oper.wp
            go_simp
            exact ⟨_, (by simp [upd, e4]), rfl, HG.out, World.grownBy.refl _ _⟩
          · have e5 : f' 5 = _ := hd ⟨5, .data⟩ (by simp) rfl
            refine ⟨rfl, ?_⟩
            unfold Oper.wp
            go_simp
            exact ⟨_, (by simp [upd, e5]), rfl, HG.out, World.grownBy.refl _ _⟩
          · have e3 : f' 3 = _ := hd ⟨3, .data⟩ (by simp) rfl
            have e6 : f' 6 = _ := hd ⟨6, .data⟩ (by simp) rfl
            refine ⟨rfl, ?_⟩
            unfold Oper.wp
            go_simp
            exact ⟨_, (by simp [upd, e3, e6]), ⟨_, rfl, al1 _ _⟩, bl_al HG.out, World.grownBy_alloc _ _ _⟩
        · intro o ho f' w' k hk hG hd
          have hZ : Below Z3.heap.size Z3 w' := HG2.out.trans (hG.mono hl2)
          have h4w := (hZ.block _ hlBz).trans H4z.out
          have c6 : w'.cell? ⟨w.heap.size, 6, none⟩ = some (.int .i64 p.hops) := cell_of h4w 6
          have HG := Lib.hid hG
          have HZ := Lib.hid hZ
          clear hG hZ
          have e0 : f' 0 = _ := hd 0 (by omega)
          obtain ⟨gl, e7, hgl⟩ := hd 7 (by omega)
          replace ho := Option.some.inj ho
          subst ho
          refine ⟨rfl, ?_⟩
          have hoW := HO2.out.bl HG.out
          refine wp_app_b (.tmp 35) (.tmp 42) rfl rfl (base := Z3.heap.size) (A := A2) (k := 6) (cap := cap2) e0 hoW HZ.out.size (m := 2) (ys := [c8, c9]) e7 (bAt.new hgl rfl) rfl (by simp) (by omega) ?_
          intro A3 cap3 W9 ho9 hg9
          exact ⟨A3, cap3, f', rfl, by simpa using ho9, HZ.out.trans (hg9.below hoW HZ.out.size)⟩
        · intro o ho a w' hR
          obtain ⟨A3, cap3, f', rfl, ho9, hb9⟩ := hR
          replace ho := Option.some.inj ho
          subst ho
          refine ⟨rfl, ?_⟩
          have H9 := Lib.hid (And.intro ho9 hb9)
          clear ho9 hb9
          unfold Oper.wp
          go_simp
          go_step
          go_meet
          exact ⟨_, _, rfl, H9.out⟩
      case rest =>
        obtain ⟨A3, cap3, rfl, ho3, hb3⟩ := hcut
        have HO3 := Lib.hid ho3
        have HG3 := Lib.hid hb3
        clear ho3 hb3
        have H4z : Hid (Z3.heap[w.heap.size]? = some (.cells #[.bool true, .int .u64 p.f.sh, .int .u64 p.f.sl, .bool true, .int .u64 p.f.th, .int .u64 p.f.tl, .int .i64 p.hops, .int .i64 p.f.proto, .int .i64 p.f.fp, .int .i64 p.f.tp, .bool p.syn, .bool p.fin, .bool p.rst, .bool p.has, .int .i64 p.seq, .int .i64 p.ack, .bool p.reply, .int .i64 p.id, .slice p.pA p.pn p.pc] 31 (0, 0))) := Lib.hid (by rw [← pk_six HH6.out (r2.trans HH6.out)]; exact H4z.out)
        go_upto_region 8 with (fail)
        have c0 : wc.cell? ⟨w.heap.size, 0, none⟩ = some (.bool true) := (HG3.out.cell (p := ⟨w.heap.size, 0, none⟩) (lt_of_block H4z.out)).trans (cell_of H4z.out 0)
        have c1 : wc.cell? ⟨w.heap.size, 1, none⟩ = some (.int .u64 p.f.sh) := (HG3.out.cell (p := ⟨w.heap.size, 1, none⟩) (lt_of_block H4z.out)).trans (cell_of H4z.out 1)
        have c2 : wc.cell? ⟨w.heap.size, 2, none⟩ = some (.int .u64 p.f.sl) := (HG3.out.cell (p := ⟨w.heap.size, 2, none⟩) (lt_of_block H4z.out)).trans (cell_of H4z.out 2)
        have c3 : wc.cell? ⟨w.heap.size, 3, none⟩ = some (.bool true) := (HG3.out.cell (p := ⟨w.heap.size, 3, none⟩) (lt_of_block H4z.out)).trans (cell_of H4z.out 3)
        have c4 : wc.cell? ⟨w.heap.size, 4, none⟩ = some (.int .u64 p.f.th) := (HG3.out.cell (p := ⟨w.heap.size, 4, none⟩) (lt_of_block H4z.out)).trans (cell_of H4z.out 4)
        have c5 : wc.cell? ⟨w.heap.size, 5, none⟩ = some (.int .u64 p.f.tl) := (HG3.out.cell (p := ⟨w.heap.size, 5, none⟩) (lt_of_block H4z.out)).trans (cell_of H4z.out 5)
        have hbw : Z3.heap.size ≤ wc.heap.size := HG3.out.size
        have HD0 : Hid (∀ W' : World, Below wc.heap.size wc W' → bOwn W' Z3.heap.size A3 8 cap3 _ ∧ Below Z3.heap.size Z3 W') := Lib.hid (fun W' hb => ⟨HO3.out.bl hb, HG3.out.trans (hb.mono hbw)⟩)
        have HK : Hid (∀ W' : World, Below Z3.heap.size Z3 W' → W'.cell? ⟨w.heap.size, 0, none⟩ = some (.bool true) ∧ W'.cell? ⟨w.heap.size, 1, none⟩ = some (.int .u64 p.f.sh) ∧ W'.cell? ⟨w.heap.size, 2, none⟩ = some (.int .u64 p.f.sl) ∧ W'.cell? ⟨w.heap.size, 3, none⟩ = some (.bool true) ∧ W'.cell? ⟨w.heap.size, 4, none⟩ = some (.int .u64 p.f.th) ∧ W'.cell? ⟨w.heap.size, 5, none⟩ = some (.int .u64 p.f.tl)) := Lib.hid (fun W' hb => ⟨(hb.cell (p := ⟨w.heap.size, 0, none⟩) (lt_of_block H4z.out)).trans (cell_of H4z.out 0), (hb.cell (p := ⟨w.heap.size, 1, none⟩) (lt_of_block H4z.out)).trans (cell_of H4z.out 1), (hb.cell (p := ⟨w.heap.size, 2, none⟩) (lt_of_block H4z.out)).trans (cell_of H4z.out 2), (hb.cell (p := ⟨w.heap.size, 3, none⟩) (lt_of_block H4z.out)).trans (cell_of H4z.out 3), (hb.cell (p := ⟨w.heap.size, 4, none⟩) (lt_of_block H4z.out)).trans (cell_of H4z.out 4), (hb.cell (p := ⟨w.heap.size, 5, none⟩) (lt_of_block H4z.out)).trans (cell_of H4z.out 5)⟩)
        go_region_held3 (fun w' => w'.cell? ⟨w.heap.size, 0, none⟩ = some (.bool true) ∧ w'.cell? ⟨w.heap.size, 1, none⟩ = some (.int .u64 p.f.sh) ∧ w'.cell? ⟨w.heap.size, 2, none⟩ = some (.int .u64 p.f.sl) ∧ w'.cell? ⟨w.heap.size, 3, none⟩ = some (.bool true) ∧ w'.cell? ⟨w.heap.size, 4, none⟩ = some (.int .u64 p.f.th) ∧ w'.cell? ⟨w.heap.size, 5, none⟩ = some (.int .u64 p.f.tl)) ((repeat' apply And.intro) <;> (repeat (first | with_reducible assumption | with_reducible refine keepD ?_ | with_reducible refine keepA ?_)))
          (first
            | (have mk3 := mark2; refine step_app_b rfl (.tmp 50) (.tmp 51) rfl rfl (base := Z3.heap.size) (A := X2) (k := 40) (cap := xc2) rfl (HD2.out _ (by first | exact Below.refl _ _ | exact (Below.refl _ _).drew | exact bl_alloc _ _ | exact ((Below.refl _ _).drew).alloc (Nat.le_refl _) _)).1 (HD2.out _ (by first | exact Below.refl _ _ | exact (Below.refl _ _).drew | exact bl_alloc _ _ | exact ((Below.refl _ _).drew).alloc (Nat.le_refl _) _)).2.size (m := n1) (ys := (partW p pay)) rfl (HPT.out.below hb2) (by first | rfl | assumption) (by simp) (by omega) ?_; intro A4 cap4 W4 ho3 hg3; have mark3 : True := trivial; have hb3 : Below Z3.heap.size Z3 W4 := ((HD2.out _ (by first | exact Below.refl _ _ | exact (Below.refl _ _).drew | exact bl_alloc _ _ | exact ((Below.refl _ _).drew).alloc (Nat.le_refl _) _)).2).trans (hg3.below (HD2.out _ (by first | exact Below.refl _ _ | exact (Below.refl _ _).drew | exact bl_alloc _ _ | exact ((Below.refl _ _).drew).alloc (Nat.le_refl _) _)).1 (HD2.out _ (by first | exact Below.refl _ _ | exact (Below.refl _ _).drew | exact bl_alloc _ _ | exact ((Below.refl _ _).drew).alloc (Nat.le_refl _) _)).2.size); have hk := HK.out W4 hb3; have d0 : W4.cell? ⟨w.heap.size, 0, none⟩ = some (.bool true) := hk.1; have d1 : W4.cell? ⟨w.heap.size, 1, none⟩ = some (.int .u64 p.f.sh) := hk.2.1; have d2 : W4.cell? ⟨w.heap.size, 2, none⟩ = some (.int .u64 p.f.sl) := hk.2.2.1; have d3 : W4.cell? ⟨w.heap.size, 3, none⟩ = some (.bool true) := hk.2.2.2.1; have d4 : W4.cell? ⟨w.heap.size, 4, none⟩ = some (.int .u64 p.f.th) := hk.2.2.2.2.1; have d5 : W4.cell? ⟨w.heap.size, 5, none⟩ = some (.int .u64 p.f.tl) := hk.2.2.2.2.2)
            | (have mk2 := mark1; go_at_call 39; refine (putAddr16 Z3.heap.size p.f.th p.f.tl a3 a4 X1 24 xc1 _ _ (HD1.out _ (by first | exact Below.refl _ _ | exact (Below.refl _ _).drew | exact bl_alloc _ _ | exact ((Below.refl _ _).drew).alloc (Nat.le_refl _) _)).1 ((HD1.out _ (by first | exact Below.refl _ _ | exact (Below.refl _ _).drew | exact bl_alloc _ _ | exact ((Below.refl _ _).drew).alloc (Nat.le_refl _) _)).2.size) (by omega)).mono ?_; rintro e V2 ⟨X2, xc2, rfl, ho2, hg2⟩; have mark2 : True := trivial; have hb2 : Below Z3.heap.size Z3 V2 := ((HD1.out _ (by first | exact Below.refl _ _ | exact (Below.refl _ _).drew | exact bl_alloc _ _ | exact ((Below.refl _ _).drew).alloc (Nat.le_refl _) _)).2).trans (hg2.below (HD1.out _ (by first | exact Below.refl _ _ | exact (Below.refl _ _).drew | exact bl_alloc _ _ | exact ((Below.refl _ _).drew).alloc (Nat.le_refl _) _)).1 (HD1.out _ (by first | exact Below.refl _ _ | exact (Below.refl _ _).drew | exact bl_alloc _ _ | exact ((Below.refl _ _).drew).alloc (Nat.le_refl _) _)).2.size); have HD2 : Hid (∀ W' : World, Below V2.heap.size V2 W' → bOwn W' Z3.heap.size X2 40 xc2 _ ∧ Below Z3.heap.size Z3 W') := Lib.hid (fun W' hb => ⟨ho2.bl hb, hb2.trans (hb.mono hb2.size)⟩); have hk := HK.out V2 hb2; have d0 : V2.cell? ⟨w.heap.size, 0, none⟩ = some (.bool true) := hk.1; have d1 : V2.cell? ⟨w.heap.size, 1, none⟩ = some (.int .u64 p.f.sh) := hk.2.1; have d2 : V2.cell? ⟨w.heap.size, 2, none⟩ = some (.int .u64 p.f.sl) := hk.2.2.1; have d3 : V2.cell? ⟨w.heap.size, 3, none⟩ = some (.bool true) := hk.2.2.2.1; have d4 : V2.cell? ⟨w.heap.size, 4, none⟩ = some (.int .u64 p.f.th) := hk.2.2.2.2.1; have d5 : V2.cell? ⟨w.heap.size, 5, none⟩ = some (.int .u64 p.f.tl) := hk.2.2.2.2.2)
            | ((fail_if_success (have mk9 := mark1)); go_at_call 39; refine (putAddr16 Z3.heap.size p.f.sh p.f.sl a1 a2 A3 8 cap3 _ _ (HD0.out _ (by first | exact Below.refl _ _ | exact (Below.refl _ _).drew | exact bl_alloc _ _ | exact ((Below.refl _ _).drew).alloc (Nat.le_refl _) _)).1 ((HD0.out _ (by first | exact Below.refl _ _ | exact (Below.refl _ _).drew | exact bl_alloc _ _ | exact ((Below.refl _ _).drew).alloc (Nat.le_refl _) _)).2.size) (by omega)).mono ?_; rintro e V1 ⟨X1, xc1, rfl, ho1, hg1⟩; have mark1 : True := trivial; have hb1 : Below Z3.heap.size Z3 V1 := ((HD0.out _ (by first | exact Below.refl _ _ | exact (Below.refl _ _).drew | exact bl_alloc _ _ | exact ((Below.refl _ _).drew).alloc (Nat.le_refl _) _)).2).trans (hg1.below (HD0.out _ (by first | exact Below.refl _ _ | exact (Below.refl _ _).drew | exact bl_alloc _ _ | exact ((Below.refl _ _).drew).alloc (Nat.le_refl _) _)).1 (HD0.out _ (by first | exact Below.refl _ _ | exact (Below.refl _ _).drew | exact bl_alloc _ _ | exact ((Below.refl _ _).drew).alloc (Nat.le_refl _) _)).2.size); have HD1 : Hid (∀ W' : World, Below V1.heap.size V1 W' → bOwn W' Z3.heap.size X1 24 xc1 _ ∧ Below Z3.heap.size Z3 W') := Lib.hid (fun W' hb => ⟨ho1.bl hb, hb1.trans (hb.mono hb1.size)⟩); have hk := HK.out V1 hb1; have d0 : V1.cell? ⟨w.heap.size, 0, none⟩ = some (.bool true) := hk.1; have d1 : V1.cell? ⟨w.heap.size, 1, none⟩ = some (.int .u64 p.f.sh) := hk.2.1; have d2 : V1.cell? ⟨w.heap.size, 2, none⟩ = some (.int .u64 p.f.sl) := hk.2.2.1; have d3 : V1.cell? ⟨w.heap.size, 3, none⟩ = some (.bool true) := hk.2.2.2.1; have d4 : V1.cell? ⟨w.heap.size, 4, none⟩ = some (.int .u64 p.f.th) := hk.2.2.2.2.1; have d5 : V1.cell? ⟨w.heap.size, 5, none⟩ = some (.int .u64 p.f.tl) := hk.2.2.2.2.2))
        have HO4 := Lib.hid ho3
        have HG4 := Lib.hid hb3
        clear HK HD0 HD1 HD2 ho1 hg1 hb1 ho2 hg2 hb2 ho3 hg3 hb3 c0 d0 c1 d1 c2 d2 c3 d3 c4 d4 c5 d5 hbw hk mark1 mark2 mark3
        have e : [96, 0, 0, 0] ++ putN n1 2 ++ [c8, c9] ++ addrP true p.f.sh p.f.sl ++ addrP true p.f.th p.f.tl ++ partW p pay = writeP p pay := by
          unfold writeP head6
          rw [if_pos HH6.out, hpl3, HC8.out, HC9.out, r2, HH6.out]
        have hfin : bOwn W4 (w.heap.size + 1) A4 (40 + n1) cap4 (writeP p pay) := by
          have hx : bOwn W4 Z3.heap.size A4 (40 + n1) cap4 (writeP p pay) := by rw [← e]; simpa using HO4.out
          exact ⟨hx.1, own_base hx.2 (by have := HBZ.out.size; have := HSZ.out; omega)⟩
        have HFIN := Lib.hid (And.intro hfin (HBw.out.trans ((HBZ.out.trans (HG4.out.mono HBZ.out.size)).mono HBw.out.size)))
        clear hfin e
        go_wp2_with fail
        go_ret
        exact ⟨_, _, _, rfl, HFIN.out.1, HFIN.out.2⟩
      -- @SIX2 END
end Go.Proofs.YtfakfhbcpldeoaaGreatDoor
