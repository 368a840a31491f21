/- filter.Tracker: In at a list of at most one, without rows. -/
import Derived.Test.YtgmeblgfcmkcgaaGreatDoorTkX
import Derived.Test.YtgmeblgfcmkcgaaGreatDoorTkL
import Derived.Test.YtgmeblgfcmkcgaaGreatDoorPkC
namespace Go.Proofs.YtgmeblgfcmkcgaaGreatDoor
open Go.RowKit Go.Hw

def InOut (w : World) (T : Nat) (at_ : Int) (A : Option Addr) (cap : Nat) (L : List Tk) (p : Pk) (e : Ending) (w' : World) : Prop :=
  ∃ (y : Bool) (K' : List Tk), e = .returned (.tuple #[.bool y, .int .i64 0]) ∧ (y, K') = seeL p.f (p.fin || p.rst) at_ L ∧ TkrAt w' T at_ A cap K' ∧ Rchg (tkF T A) w w'
set_option maxRecDepth 100000 in
set_option maxHeartbeats 4000000 in
theorem in_any (T : Nat) (last : Int) (A : Option Addr) (cap : Nat) (L : List Tk) (p : Pk) (at_ : Int) (w : World) (h : TkrAt w T last A cap L) (hp : PkOk p) (h0 : 0 ≤ at_) (h1 : at_ ≤ 100000) (h2 : last ≤ at_) :
    Calls Tryz.prog 8 #[.pointer (some ⟨T, 0, none⟩), .agg #[.bool p.f.s6, .int .u64 p.f.sh, .int .u64 p.f.sl, .bool p.f.t6, .int .u64 p.f.th, .int .u64 p.f.tl, .int .i64 p.hops, .int .i64 p.f.proto, .int .i64 p.f.fp, .int .i64 p.f.tp, .bool p.syn, .bool p.fin, .bool p.rst, .bool p.has, .int .i64 p.seq, .int .i64 p.ack, .bool p.reply, .int .i64 p.id, .slice p.pA p.pn p.pc], .int .i64 at_] w (InOut w T at_ A cap L p) := by
  have h41 := al1 w (.cells (pkA p) 37)
  have HB := bl_alloc w (.cells (pkA p) 37)
  go_enter Tryz.func8, Tryz.ntmps8
  go_upto_region 1 with (fail)
  generalize hW : World.alloc w _ = W1
  have h4 : W1.heap[w.heap.size]? = some (.cells (pkA p) 37 (0, 0)) := by rw [← hW]; exact h41
  have hB1 : Below w.heap.size w W1 := by rw [← hW]; exact HB
  clear hW h41 HB
  go_step
  go_step
  refine load_step rfl h4 (by kernel_rfl) (by kernel_rfl) ?_
  go_wp2_with fail
  refine (checkPacket_any p hp W1).mono ?_
  rintro e W2 ⟨rfl, hb2⟩
  have hB2 := hB1.trans (hb2.mono hB1.size)
  have h42 := (hb2.block _ (lt_of_block h4)).trans h4
  have hA2 : TkrAt W2 T last A cap L := ⟨(hB2.block T (lt_of_block h.blk)).trans h.blk, rw_same h.own (fun k hk => hB2.block k (h.own.lt k hk).2), h.ne, h.fine, h.len⟩
  have htf := timeFault_any T last A _ cap at_ W2 _ hA2.blk h0 h1 h2
  have HA2 := Lib.hid hA2
  have HB2 := Lib.hid hB2
  have H42 := Lib.hid h42
  have HS := Lib.hid (see_any T last A cap L p at_ W2 hA2 h0 h1)
  clear h4 hB1 hb2 hB2 h42 hA2
  go_wp2_with fail
  refine htf.mono ?_
  rintro e w3 ⟨rfl, rfl⟩
  clear htf
  go_upto_region 7 with (fail)
  go_step
  go_step
  go_step
  first | refine load_step rfl H42.out (by kernel_rfl) (by kernel_rfl) ?_ | (go_step; refine load_step rfl H42.out (by kernel_rfl) (by kernel_rfl) ?_) | (go_step; go_step; refine load_step rfl H42.out (by kernel_rfl) (by kernel_rfl) ?_)
  go_wp2_with fail
  refine HS.out.mono ?_
  rintro e W3 ⟨y, K', rfl, hsee, hA3, hc3⟩
  have hwT : ¬ tkF T A w.heap.size := by
    rintro (e | e)
    · have := lt_of_block h.blk; omega
    · have := (h.own.lt w.heap.size (own_cut0.trans e)).2; omega
  have h43 := (hc3.block _ (lt_of_block H42.out) hwT).trans H42.out
  have HC3 := Lib.hid (show Rchg (tkF T A) w W3 from (Rchg.of_below (F := tkF T A) HB2.out).trans hc3 (fun k _ e => e))
  have H43 := Lib.hid h43
  have HSEE := Lib.hid hsee
  have HA3 := Lib.hid hA3
  clear hsee hA3 hc3 h43 HS h
  cases y
  · go_upto_region 9 with (fail)
    have hT3 := HA3.out.blk
    have h43 := H43.out
    go_cut [32] (fun v wc => v = .bool true ∧ Below W3.heap.size W3 wc)
    case first =>
      refine wp_region_drawn 7 (fun f' => ⟨#[.pointer (some ⟨T, 0, none⟩), .agg #[.bool p.f.s6, .int .u64 p.f.sh, .int .u64 p.f.sl, .bool p.f.t6, .int .u64 p.f.th, .int .u64 p.f.tl, .int .i64 p.hops, .int .i64 p.f.proto, .int .i64 p.f.fp, .int .i64 p.f.tp, .bool p.syn, .bool p.fin, .bool p.rst, .bool p.has, .int .i64 p.seq, .int .i64 p.ack, .bool p.reply, .int .i64 p.id, .slice p.pA p.pn p.pc], .int .i64 at_, undef, .pointer (some ⟨w.heap.size, 0, none⟩), undef, .bool false, .int .i64 0, .int .i64 0, .int .i64 0, .agg (pkA p), .int .i64 0, .int .i64 0, .bool false, undef, .pointer (some ⟨T, 0, none⟩), .int .i64 at_, .int .i64 0, .int .i64 0, .bool false, undef, .pointer (some ⟨T, 0, none⟩), .agg (pkA p), .int .i64 at_, .bool false, f' 0, f' 1, f' 2, f' 3, f' 4, f' 5, f' 6, undef, undef, undef, undef, undef], []⟩) (VL [
        VIs (.pointer (some ⟨T, 0, none⟩)), VIs (.pointer (some ⟨T, 0, none⟩)), VIs (.pointer (some ⟨T, 0, none⟩)), VIs (.slice none 0 0), VIs (.agg (pkA p)), VIs (.agg #[.int .i64 p.f.proto, .bool p.f.s6, .int .u64 p.f.sh, .int .u64 p.f.sl, .bool p.f.t6, .int .u64 p.f.th, .int .u64 p.f.tl, .int .i64 p.f.fp, .int .i64 p.f.tp]), VIs (.bool false)]) (fun _ w' => Below W3.heap.size W3 w') (fun w w' => w.grownBy w' none) (fun _ => undef) (show Tryz.prog.follows .mixedOrders = true from by kernel_rfl) (by kernel_rfl) ?_ ?_ ?_ ((Below.refl _ _).drew)
      · exact fun i w w' v h hg => VL.stabG (Gr := fun w w' => w.grownBy w' none) (by
          intro q hq w w' v hv hg
          simp only [List.mem_cons, List.mem_nil_iff, or_false] at hq
          rcases hq with rfl | rfl | rfl | rfl | rfl | rfl | rfl <;> exact hv) i w w' v h hg
      · intro i o hi ho f' w' k hk hG hd
        have hT' := (hG.block _ (lt_of_block hT3)).trans hT3
        have h4' := (hG.block _ (lt_of_block h43)).trans h43
        have zT := tkB_cells hT'
        have HG := Lib.hid hG
        clear hG
        have hcase : i = 0 ∨ i = 1 ∨ i = 2 ∨ i = 3 ∨ i = 4 ∨ i = 5 ∨ i = 6 := by omega
        rcases hcase with rfl | rfl | rfl | rfl | rfl | rfl | rfl <;> (replace ho := Option.some.inj ho; subst ho)
        · unfold Oper.wp
          go_simp
          exact ⟨_, (by simp [upd]), rfl, HG.out, World.grownBy.refl _ _⟩
        · have e0 : f' 0 = _ := hd ⟨0, .data⟩ (by simp) rfl
          unfold Oper.wp
          go_simp
          exact ⟨_, (by simp [upd, e0]), rfl, HG.out, World.grownBy.refl _ _⟩
        · have e1 : f' 1 = _ := hd ⟨1, .data⟩ (by simp) rfl
          unfold Oper.wp
          go_simp
          exact ⟨_, (by simp [upd, e1]), rfl, HG.out, World.grownBy.refl _ _⟩
        · have e2 : f' 2 = _ := hd ⟨2, .data⟩ (by simp) rfl
          unfold Oper.wp
          go_simp
          exact ⟨_, (by simp [upd, e2]), rfl, HG.out, World.grownBy.refl _ _⟩
        · refine load_step rfl h4' (by kernel_rfl) (by kernel_rfl) ?_
          exact ⟨_, rfl, rfl, HG.out, World.grownBy.refl _ _⟩
        · have e4 : f' 4 = _ := hd ⟨4, .data⟩ (by simp) rfl
          unfold Oper.wp
          go_simp
          refine (flowOf_any p _).mono ?_
          rintro e W5 ⟨rfl, hb5⟩
          exact ⟨_, (by simp [upd, e4]), rfl, HG.out.trans (hb5.mono HG.out.size), grownB hb5 none⟩
        · have e3 : f' 3 = _ := hd ⟨3, .data⟩ (by simp) rfl
          have e5 : f' 5 = _ := hd ⟨5, .data⟩ (by simp) rfl
          unfold Oper.wp
          go_simp
          refine (lets_nil p.f _).mono ?_
          rintro e W5 ⟨rfl, hb5⟩
          exact ⟨_, (by simp [upd, e3, e5]), rfl, HG.out.trans (hb5.mono HG.out.size), grownB hb5 none⟩
      · intro o ho f' w' k hk hG hd
        have e6 : f' 6 = _ := hd 6 (by omega)
        have HG := Lib.hid hG
        clear hG
        replace ho := Option.some.inj ho
        subst ho
        unfold Oper.wp
        go_simp
        go_step
        go_meet
        exact ⟨rfl, HG.out⟩
    case rest =>
      obtain ⟨rfl, hb4⟩ := hcut
      have hA4 : TkrAt wc T at_ A cap K' := ⟨(hb4.block T (lt_of_block HA3.out.blk)).trans HA3.out.blk, rw_same HA3.out.own (fun k hk => hb4.block k (HA3.out.own.lt k hk).2), HA3.out.ne, HA3.out.fine, HA3.out.len⟩
      have HF := Lib.hid (And.intro hA4 (HC3.out.trans (Rchg.of_below (F := tkF T A) hb4) (fun _ _ e => e)))
      clear hA4 hb4 hT3 h43
      go_wp2_with fail
      go_ret2
      exact ⟨false, K', rfl, HSEE.out, HF.out.1, HF.out.2⟩
  · go_wp2_with fail
    go_ret2
    exact ⟨true, K', rfl, HSEE.out, HA3.out, HC3.out⟩
end Go.Proofs.YtgmeblgfcmkcgaaGreatDoor
