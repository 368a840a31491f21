/- filter.Tracker: track at an empty list. -/
import Derived.Test.YtgmeblgfcmkcgaaGreatDoorTkV
import Derived.Deep.AppendLies
namespace Go.Proofs.YtgmeblgfcmkcgaaGreatDoor
open Go.RowKit Go.Hw

theorem VL.stabG {Gr : World → World → Prop} {l : List (World → Value → Prop)} (h : ∀ p ∈ l, ∀ w w' v, p w v → Gr w w' → p w' v) (i : Nat) (w w' : World) (v : Value) (hv : VL l i w v) (hg : Gr w w') : VL l i w' v := by
  unfold VL at *
  by_cases hi : i < l.length
  · exact h _ (getD_mem hi) w w' v hv hg
  · rw [List.getD_eq_getElem?_getD, List.getElem?_eq_none (by omega)] at hv ⊢
    exact hv
theorem kp_infoT : (Tryz.prog.info? 128).map (fun i => (i.zero, i.size, i.bytes)) = some (some (.agg #[.int .i64 0, .bool false, .int .u64 0, .int .u64 0, .bool false, .int .u64 0, .int .u64 0, .int .i64 0, .int .i64 0, .int .i64 0, .bool false, .bool false]), 12, 88) := by kernel_rfl
set_option maxRecDepth 100000 in
set_option maxHeartbeats 4000000 in
theorem track_any (T : Nat) (last : Int) (p : Pk) (at_ : Int) (w : World) (h : TkrAt w T last none 0 []) (hf : p.fin = false) (hr : p.rst = false) (h0 : 0 ≤ at_) (h1 : at_ ≤ 100000) :
    Calls Tryz.prog 29 #[.pointer (some ⟨T, 0, none⟩), .agg #[.bool p.f.s6, .int .u64 p.f.sh, .int .u64 p.f.sl, .bool p.f.t6, .int .u64 p.f.th, .int .u64 p.f.tl, .int .i64 p.hops, .int .i64 p.f.proto, .int .i64 p.f.fp, .int .i64 p.f.tp, .bool p.syn, .bool p.fin, .bool p.rst, .bool p.has, .int .i64 p.seq, .int .i64 p.ack, .bool p.reply, .int .i64 p.id, .slice p.pA p.pn p.pc], .int .i64 at_] w
      fun e w' => ∃ g cap, e = .returned (.tuple #[]) ∧ w.heap.size ≤ g ∧ TkrAt w' T last (some ⟨g, 0, none⟩) cap [⟨p.f, at_, false, false⟩] ∧ Rchg (fun k => k = T) w w' := by
  have HFI := Lib.hid hf
  have HRS := Lib.hid hr
  clear hf hr
  have hT0 := h.blk
  have hTl := lt_of_block hT0
  have hT1 := old1 (a := .cells (pkA p) 37) hT0
  have h41 := al1 w (.cells (pkA p) 37)
  have HB := bl_alloc w (.cells (pkA p) 37)
  go_enter Tryz.func29, Tryz.ntmps29
  go_upto_region 1 with (fail)
  generalize hW : World.alloc w _ = W1
  have hT : W1.heap[T]? = some (.cells (tkB last none 0 0) 61 (0, 0)) := by rw [← hW]; exact hT1
  have h4 : W1.heap[w.heap.size]? = some (.cells (pkA p) 37 (0, 0)) := by rw [← hW]; exact h41
  have hB1 : Below w.heap.size w W1 := by rw [← hW]; exact HB
  clear hW hT0 hT1 h41 HB
  obtain ⟨i0, hI0, hz0, hz1, hz2⟩ := info_parts kp_infoT
  go_cut [] (fun wc => ∃ g cap, W1.heap.size ≤ g ∧ TkrAt wc T last (some ⟨g, 0, none⟩) cap [⟨p.f, at_, false, false⟩] ∧ Rchg (fun k => k = T) W1 wc)
  case first =>
    refine wp_region_guarded 19 (fun f' => ⟨#[.pointer (some ⟨T, 0, none⟩), .agg #[.bool p.f.s6, .int .u64 p.f.sh, .int .u64 p.f.sl, .bool p.f.t6, .int .u64 p.f.th, .int .u64 p.f.tl, .int .i64 p.hops, .int .i64 p.f.proto, .int .i64 p.f.fp, .int .i64 p.f.tp, .bool p.syn, .bool p.fin, .bool p.rst, .bool p.has, .int .i64 p.seq, .int .i64 p.ack, .bool p.reply, .int .i64 p.id, .slice p.pA p.pn p.pc], .int .i64 at_, undef, .pointer (some ⟨w.heap.size, 0, none⟩), undef, undef, undef, undef, f' 0, f' 1, f' 2, f' 3, f' 4, f' 5, f' 6, f' 7, f' 8, f' 9, f' 10, f' 11, f' 12, f' 13, f' 14, f' 15, f' 16, f' 17, f' 18, undef, undef, undef, undef, undef, undef, undef, undef, undef, undef, undef, undef, undef, undef, undef, undef, undef, undef, undef, undef, undef, undef, undef, undef, undef, undef, undef, undef, undef, undef, undef, undef, undef, undef, undef, undef, undef, undef, undef, undef, undef, undef, undef, undef], []⟩) (VL [
      VIs (.pointer (some ⟨T, 0, none⟩)), VIs (.pointer (some ⟨T, 0, none⟩)), VIs (.pointer (some ⟨T, 0, none⟩)), VIs (.pointer (some ⟨T, 7, none⟩)), VIs (.slice none 0 0),
      VIs (.agg (pkA p)), VIs (.agg #[.int .i64 p.f.proto, .bool p.f.s6, .int .u64 p.f.sh, .int .u64 p.f.sl, .bool p.f.t6, .int .u64 p.f.th, .int .u64 p.f.tl, .int .i64 p.f.fp, .int .i64 p.f.tp]), VIs (.int .i64 at_), VIs (.pointer (some ⟨w.heap.size, 11, none⟩)), VIs (.bool false), VIs (.bool false), VIs (.pointer (some ⟨w.heap.size, 12, none⟩)), VIs (.bool false), VIs (.bool false),
      VIs (.agg #[.int .i64 p.f.proto, .bool p.f.s6, .int .u64 p.f.sh, .int .u64 p.f.sl, .bool p.f.t6, .int .u64 p.f.th, .int .u64 p.f.tl, .int .i64 p.f.fp, .int .i64 p.f.tp, .int .i64 at_, .bool false, .bool false]), (fun w' v => ∃ g, v = .slice (some ⟨g, 0, none⟩) 1 1 ∧ w'.heap[g]? = some (.cells #[.int .i64 p.f.proto, .bool p.f.s6, .int .u64 p.f.sh, .int .u64 p.f.sl, .bool p.f.t6, .int .u64 p.f.th, .int .u64 p.f.tl, .int .i64 p.f.fp, .int .i64 p.f.tp, .int .i64 at_, .bool false, .bool false] 128 (0, 0))),
      (fun w' v => ∃ g cap, v = .slice (some ⟨g, 0, none⟩) 1 cap ∧ W1.heap.size ≤ g ∧ tkOwn w' 0 (.slice (some ⟨g, 0, none⟩) 1 cap) [⟨p.f, at_, false, false⟩]),
      VIs (.pointer (some ⟨T, 0, none⟩)), VIs (.pointer (some ⟨T, 7, none⟩))]) (fun _ w' => Below W1.heap.size W1 w') (fun w w' => w.grownBy w' none) (fun _ => undef) (show Tryz.prog.follows .mixedOrders = true from by kernel_rfl) (by kernel_rfl) ?_ ?_ ?_ ((Below.refl _ _).drew)
    · exact fun i w w' v h hg => VL.stabG (Gr := fun w w' => w.grownBy w' none) (by
        intro q hq w w' v hv (hg : w.grownBy w' none)
        simp only [List.mem_cons, List.mem_nil_iff, or_false] at hq
        rcases hq with rfl | rfl | rfl | rfl | rfl | rfl | rfl | rfl | rfl | rfl | rfl | rfl | rfl | rfl | rfl | rfl | rfl | rfl | rfl <;> first
          | exact hv
          | (obtain ⟨g, h1, h2⟩ := hv; exact ⟨g, h1, (hg.block g (lt_of_block h2) (by simp)).trans h2⟩)
          | (obtain ⟨g, cap, h1, h2, h3⟩ := hv; exact ⟨g, cap, h1, h2, rw_same h3 (fun k hk => hg.block k (h3.lt k hk).2 (by simp))⟩)) i w w' v h hg
    · intro i o hi ho f' w' k hk hG hd
      have hT' := (hG.block _ (lt_of_block hT)).trans hT
      have h4' := (hG.block _ (lt_of_block h4)).trans h4
      have zT := tkB_cells hT'
      have c11 : w'.cell? ⟨w.heap.size, 11, none⟩ = some (.bool p.fin) := cell_of h4' 11
      have c12 : w'.cell? ⟨w.heap.size, 12, none⟩ = some (.bool p.rst) := cell_of h4' 12
      rw [HFI.out] at c11
      rw [HRS.out] at c12
      have HG := Lib.hid hG
      clear hG
      have hcase : i = 0 ∨ i = 1 ∨ i = 2 ∨ i = 3 ∨ i = 4 ∨ i = 5 ∨ i = 6 ∨ i = 7 ∨ i = 8 ∨ i = 9 ∨ i = 10 ∨ i = 11 ∨ i = 12 ∨ i = 13 ∨ i = 14 ∨ i = 15 ∨ i = 16 ∨ i = 17 ∨ i = 18 := by omega
      rcases hcase with rfl | rfl | rfl | rfl | rfl | rfl | rfl | rfl | rfl | rfl | rfl | rfl | rfl | rfl | rfl | rfl | rfl | rfl | rfl <;> (replace ho := Option.some.inj ho; subst ho)
      · refine ⟨rfl, ?_⟩
        unfold Oper.wp
        go_simp
        exact ⟨_, (by simp [upd]), rfl, HG.out, World.grownBy.refl _ _⟩
      · refine ⟨rfl, ?_⟩
        unfold Oper.wp
        go_simp
        exact ⟨_, (by simp [upd]), rfl, HG.out, World.grownBy.refl _ _⟩
      · have e1 : f' 1 = _ := hd ⟨1, .data⟩ (by simp) rfl
        refine ⟨rfl, ?_⟩
        unfold Oper.wp
        go_simp
        exact ⟨_, (by simp [upd, e1]), rfl, HG.out, World.grownBy.refl _ _⟩
      · have e2 : f' 2 = _ := hd ⟨2, .data⟩ (by simp) rfl
        refine ⟨rfl, ?_⟩
        unfold Oper.wp
        go_simp
        exact ⟨_, (by simp [upd, e2]), rfl, HG.out, World.grownBy.refl _ _⟩
      · have e3 : f' 3 = _ := hd ⟨3, .data⟩ (by simp) rfl
        refine ⟨rfl, ?_⟩
        unfold Oper.wp
        go_simp
        exact ⟨_, (by simp [upd, e3]), rfl, HG.out, World.grownBy.refl _ _⟩
      · refine ⟨rfl, load_step rfl h4' (by kernel_rfl) (by kernel_rfl) ?_⟩
        exact ⟨_, rfl, rfl, HG.out, World.grownBy.refl _ _⟩
      · have e5 : f' 5 = _ := hd ⟨5, .data⟩ (by simp) rfl
        refine ⟨rfl, ?_⟩
        unfold Oper.wp
        go_simp
        refine (flowOf_any p _).mono ?_
        rintro e W5 ⟨rfl, hb5⟩
        exact ⟨_, (by simp [upd, e5]), rfl, HG.out.trans (hb5.mono HG.out.size), grownB hb5 none⟩
      · refine ⟨rfl, ?_⟩
        unfold Oper.wp
        go_simp
        exact ⟨_, (by simp [upd]), rfl, HG.out, World.grownBy.refl _ _⟩
      · refine ⟨rfl, ?_⟩
        unfold Oper.wp
        go_simp
        exact ⟨_, (by simp [upd]), rfl, HG.out, World.grownBy.refl _ _⟩
      · have e8 : f' 8 = _ := hd ⟨8, .data⟩ (by simp) rfl
        refine ⟨rfl, ?_⟩
        unfold Oper.wp
        go_simp
        exact ⟨_, (by simp [upd, e8]), rfl, HG.out, World.grownBy.refl _ _⟩
      · have e9 : f' 9 = _ := hd ⟨9, .data⟩ (by simp) rfl
        refine ⟨rfl, ?_⟩
        unfold Oper.wp
        go_simp
        exact ⟨_, (by simp [upd, e9]), rfl, HG.out, World.grownBy.refl _ _⟩
      · refine ⟨by have e10 : f' 10 = _ := hd ⟨10, .guard⟩ (by simp) rfl; simp [Region.wanted, yielded, e10], ?_⟩
        unfold Oper.wp
        go_simp
        exact ⟨_, (by simp [upd]), rfl, HG.out, World.grownBy.refl _ _⟩
      · have e11 : f' 11 = _ := hd ⟨11, .data⟩ (by simp) rfl
        refine ⟨by have e10 : f' 10 = _ := hd ⟨10, .guard⟩ (by simp) rfl; simp [Region.wanted, yielded, e10], ?_⟩
        unfold Oper.wp
        go_simp
        exact ⟨_, (by simp [upd, e11]), rfl, HG.out, World.grownBy.refl _ _⟩
      · have e10 : f' 10 = _ := hd ⟨10, .data⟩ (by simp) rfl
        have e12 : f' 12 = _ := hd ⟨12, .data⟩ (by simp) rfl
        refine ⟨rfl, ?_⟩
        unfold Oper.wp
        go_simp
        exact ⟨_, (by simp [upd, e10, e12]), rfl, HG.out, World.grownBy.refl _ _⟩
      · have e6 : f' 6 = _ := hd ⟨6, .data⟩ (by simp) rfl
        have e7 : f' 7 = _ := hd ⟨7, .data⟩ (by simp) rfl
        have e13 : f' 13 = _ := hd ⟨13, .data⟩ (by simp) rfl
        refine ⟨rfl, ?_⟩
        unfold Oper.wp
        go_simp
        exact ⟨_, (by simp [upd, e6, e7, e13]), rfl, HG.out, World.grownBy.refl _ _⟩
      · have e14 : f' 14 = _ := hd ⟨14, .data⟩ (by simp) rfl
        refine ⟨rfl, ?_⟩
        unfold Oper.wp
        go_simp
        exact ⟨_, (by simp [upd, e14]), ⟨_, rfl, al1 _ _⟩, bl_al HG.out, World.grownBy_alloc _ _ _⟩
      · have e4 : f' 4 = _ := hd ⟨4, .data⟩ (by simp) rfl
        obtain ⟨g, e15, hb15⟩ := hd ⟨15, .data⟩ (by simp) rfl
        refine ⟨rfl, ?_⟩
        refine wp_append_lies w' (.tmp 13) (.tmp 24) 59 (by rfl) w'.heap.size 128 i0 _ 12 88 Tryz.underlying59 hI0 hz0 hz1 hz2 rfl (by omega) (.slice none 0 0) 0 [] e4 (World.ownsRow_nil _ _ _ _) ⟨g, 0, none⟩ 1 1 _ e15 (by rfl) (World.news_of_block hb15) (by simp [Value.oneCell']) (by omega) (by unfold maxLen; omega) (by omega) (Nat.le_refl _) w'.heap.size rfl ?_
        intro gg cg W9 hown hgrow hat hgl
        have hb9 : Below w'.heap.size w' W9 := ⟨hgrow.os, hgrow.tape, hgrow.output, hgrow.size, fun k hk => hgrow.block k hk (by simp [Value.ownBlock])⟩
        exact ⟨_, rfl, ⟨gg, cg, rfl, Nat.le_trans HG.out.size (hown.lt gg rfl).1, own_base hown (Nat.zero_le _)⟩, HG.out.trans (hb9.mono HG.out.size), grownB hb9 none⟩
      · have e0 : f' 0 = _ := hd ⟨0, .data⟩ (by simp) rfl
        refine ⟨rfl, ?_⟩
        unfold Oper.wp
        go_simp
        exact ⟨_, (by simp [upd, e0]), rfl, HG.out, World.grownBy.refl _ _⟩
      · have e17 : f' 17 = _ := hd ⟨17, .data⟩ (by simp) rfl
        refine ⟨rfl, ?_⟩
        unfold Oper.wp
        go_simp
        exact ⟨_, (by simp [upd, e17]), rfl, HG.out, World.grownBy.refl _ _⟩
    · intro o ho f' w' k hk hG hd
      have hT' := (hG.block _ (lt_of_block hT)).trans hT
      have zT := tkB_cells hT'
      have e18 : f' 18 = _ := hd 18 (by omega)
      obtain ⟨g, cap, e16, hg, how⟩ := hd 16 (by omega)
      have HG := Lib.hid hG
      have HT' := Lib.hid hT'
      have HOW := Lib.hid how
      have hTg : T ≠ g := by have := lt_of_block hT; omega
      clear hG hT' how
      replace ho := Option.some.inj ho
      subst ho
      refine ⟨rfl, ?_⟩
      unfold Oper.wp
      go_simp
      go_step
      go_meet
      exact ⟨g, cap, hg, ⟨heap_set HT'.out 7 _, rw_same HOW.out (fun k hk => Below.heap_setCell _ _ _ _ (fun e => hTg (by injection hk with hk; exact (hk.trans e).symm))), (fun e => hTg (by injection e with e; exact e.symm)), fun y hy => by rw [List.mem_singleton.1 hy]; exact ⟨h0, h1⟩, by simp⟩, Rchg.set (F := fun k => k = T) (Rchg.of_below HG.out) (fun _ => rfl) 7 _⟩
  case rest =>
    obtain ⟨g, cap, hg, hA, hc⟩ := hcut
    have zT := tkB_cells hA.blk
    have HA := Lib.hid hA
    have HC := Lib.hid ((Rchg.of_below (F := fun k => k = T) hB1).trans hc (fun _ _ e => e))
    have hwg : w.heap.size ≤ g := Nat.le_trans hB1.size hg
    clear hA hc hT h4 hB1
    go_wp2_with fail
    go_quiet (fail)
    go_wp2_with fail
    exact bodyPost_ret (v := .tuple #[]) (by simp [results, Tryz.results29, go_sem]) rfl ⟨g, cap, rfl, hwg, ⟨HA.out.blk, HA.out.own, HA.out.ne, HA.out.fine, HA.out.len⟩, ⟨HC.out.os, HC.out.tape, HC.out.output, HC.out.size, HC.out.block⟩⟩
end Go.Proofs.YtgmeblgfcmkcgaaGreatDoor
