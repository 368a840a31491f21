/- filter.Tracker: Out at an empty list (a draft). -/
import Derived.Test.YtgmeblgfcmkcgaaGreatDoorTkX
import Derived.Test.YtgmeblgfcmkcgaaGreatDoorPkC
namespace Go.Proofs.YtgmeblgfcmkcgaaGreatDoor
open Go.RowKit Go.Hw

set_option maxRecDepth 100000 in
set_option maxHeartbeats 4000000 in
theorem out_any (T : Nat) (last : Int) (p : Pk) (at_ : Int) (w : World) (h : TkrAt w T last none 0 []) (hp : PkOk p) (hf : p.fin = false) (hr : p.rst = false) (h0 : 0 ≤ at_) (h1 : at_ ≤ 100000) (h2 : last ≤ at_) :
    Calls Tryz.prog 9 #[.pointer (some ⟨T, 0, none⟩), .agg #[.bool p.f.s6, .int .u64 p.f.sh, .int .u64 p.f.sl, .bool p.f.t6, .int .u64 p.f.th, .int .u64 p.f.tl, .int .i64 p.hops, .int .i64 p.f.proto, .int .i64 p.f.fp, .int .i64 p.f.tp, .bool p.syn, .bool p.fin, .bool p.rst, .bool p.has, .int .i64 p.seq, .int .i64 p.ack, .bool p.reply, .int .i64 p.id, .slice p.pA p.pn p.pc], .int .i64 at_] w
      fun e w' => ∃ g cap, e = .returned (.int .i64 0) ∧ w.heap.size ≤ g ∧ TkrAt w' T at_ (some ⟨g, 0, none⟩) cap [⟨p.f, at_, false, false⟩] ∧ Rchg (fun k => k = T) w w' := by
  have HFI := Lib.hid hf
  have HRS := Lib.hid hr
  clear hf hr
  have h41 := al1 w (.cells (pkA p) 37)
  have HB := bl_alloc w (.cells (pkA p) 37)
  go_enter Tryz.func9, Tryz.ntmps9
  go_upto_region 1 with (fail)
  generalize hW : World.alloc w _ = W1
  have h4 : W1.heap[w.heap.size]? = some (.cells (pkA p) 37 (0, 0)) := by rw [← hW]; exact h41
  have hB1 : Below w.heap.size w W1 := by rw [← hW]; exact HB
  clear hW h41 HB
  go_step
  go_step
  refine load_step rfl h4 (by kernel_rfl) (by kernel_rfl) ?_
  go_wp2_with fail
  refine (checkPacket_any p hp W1).mono ?_
  rintro e W2 ⟨rfl, hb2⟩
  have hB2 := hB1.trans (hb2.mono hB1.size)
  have h42 := (hb2.block _ (lt_of_block h4)).trans h4
  have hA2 : TkrAt W2 T last none 0 [] := ⟨(hB2.block T (lt_of_block h.blk)).trans h.blk, World.ownsRow_nil _ _ _ _, h.ne, h.fine, h.len⟩
  have htf := timeFault_any T last none _ 0 at_ W2 _ hA2.blk h0 h1 h2
  have HA2 := Lib.hid hA2
  have HB2 := Lib.hid hB2
  have H42 := Lib.hid h42
  have HS := Lib.hid (see_any T last none 0 [] p at_ W2 hA2 h0 h1)
  clear h4 hB1 hb2 hB2 h42 hA2
  go_wp2_with fail
  refine htf.mono ?_
  rintro e w3 ⟨rfl, rfl⟩
  clear htf
  go_upto_region 7 with (fail)
  go_step
  go_step
  go_step
  first | refine load_step rfl H42.out (by kernel_rfl) (by kernel_rfl) ?_ | (go_step; refine load_step rfl H42.out (by kernel_rfl) (by kernel_rfl) ?_) | (go_step; go_step; refine load_step rfl H42.out (by kernel_rfl) (by kernel_rfl) ?_)
  go_wp2_with fail
  refine HS.out.mono ?_
  rintro e W3 ⟨y, K', rfl, hsee, hA3, hc3⟩
  have hs' : y = false ∧ K' = [] := by simpa [seeL] using hsee
  obtain ⟨rfl, rfl⟩ := hs'
  have hwT : ¬ tkF T none w.heap.size := by
    rintro (e | e)
    · have := lt_of_block h.blk; omega
    · simp [Value.ownBlock] at e
  have h43 := (hc3.block _ (lt_of_block H42.out) hwT).trans H42.out
  have HT := Lib.hid (track_any T at_ p at_ W3 hA3 HFI.out HRS.out h0 h1)
  have HC3 := Lib.hid (show Rchg (fun k => k = T) w W3 from ((Rchg.of_below (F := fun k => k = T) HB2.out).trans hc3 (fun k _ e => by
    rcases e with e | e
    · exact e
    · simp [Value.ownBlock] at e)))
  have H43 := Lib.hid h43
  clear hsee hA3 hc3 h43 HS
  go_upto_region 8 with (fail)
  go_step
  go_step
  go_step
  first | refine load_step rfl H43.out (by kernel_rfl) (by kernel_rfl) ?_ | (go_step; refine load_step rfl H43.out (by kernel_rfl) (by kernel_rfl) ?_) | (go_step; go_step; refine load_step rfl H43.out (by kernel_rfl) (by kernel_rfl) ?_)
  go_wp2_with fail
  refine HT.out.mono ?_
  rintro e W4 ⟨g, cap, rfl, hg, hA4, hc4⟩
  have HA4 := Lib.hid hA4
  have HC4 := Lib.hid (HC3.out.trans hc4 (fun _ _ e => e))
  have hwg : w.heap.size ≤ g := Nat.le_trans HC3.out.size hg
  clear hA4 hc4
  go_wp2_with fail
  go_ret
  exact ⟨g, cap, rfl, hwg, HA4.out, HC4.out⟩
end Go.Proofs.YtgmeblgfcmkcgaaGreatDoor
