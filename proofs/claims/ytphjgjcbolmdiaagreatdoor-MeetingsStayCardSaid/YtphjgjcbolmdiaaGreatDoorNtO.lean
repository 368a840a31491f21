/- Translators: Out where there is no room. -/
import Derived.Test.YtphjgjcbolmdiaaGreatDoorNtM
import Derived.Deep.Cut
namespace Go.Proofs.YtphjgjcbolmdiaaGreatDoor
open Go.RowKit Go.Hw

set_option maxRecDepth 100000 in
set_option maxHeartbeats 4000000 in
theorem out_full (T : Nat) (n : NatC) (now next : Int) (F : Nat → Prop) (A : Option Addr) (cap : Nat) (L : List Ent) (at_ : Int) (s d : Spot) (w : World) (h : TrAt w F T n now next A cap L) (ok : Ok n now at_ L)
    (hs0 : 0 ≤ s.hi) (hd0 : 0 ≤ d.hi) (hs : spotCode s = 0) (hd : spotCode d = 0) (hr : idxP (isEntry n at_ s (seenS d n.maps)) L = -1) (hfull : n.ports ≤ (L.length : Int)) :
    Calls Tryz.prog 13 #[.pointer (some ⟨T, 0, none⟩), .int .i64 at_, .agg #[.bool s.six, .int .u64 s.hi, .int .u64 s.lo, .int .i64 s.port], .agg #[.bool d.six, .int .u64 d.hi, .int .u64 d.lo, .int .i64 d.port]] w
      fun e w' => e = .returned (.tuple #[.agg #[.bool false, .int .u64 0, .int .u64 0, .int .i64 0], .int .i64 12]) ∧ Below w.heap.size w w' := by
  have p0 := pair0 (.bool s.six) (.int .u64 s.hi) (.int .u64 s.lo) (.int .i64 s.port) (.bool d.six) (.int .u64 d.hi) (.int .u64 d.lo) (.int .i64 d.port)
  have p1 := pair1 (.bool s.six) (.int .u64 s.hi) (.int .u64 s.lo) (.int .i64 s.port) (.bool d.six) (.int .u64 d.hi) (.int .u64 d.lo) (.int .i64 d.port)
  have HH := Lib.hid h
  have OK := Lib.hid ok
  have HR := Lib.hid hr
  have HSP := Lib.hid hs
  have HDP := Lib.hid hd
  clear h ok hr hs hd
  go_enter Tryz.func13, Tryz.ntmps13
  go_wp2_with fail
  generalize hW : World.alloc _ _ = W1
  have hb1 : Below w.heap.size w W1 := by rw [← hW]; exact (three _ _ _ _).2.2.2
  have b0 : W1.heap[w.heap.size]? = some (.cells #[.bool s.six, .int .u64 s.hi, .int .u64 s.lo, .int .i64 s.port] 42 (0, 0)) := by rw [← hW]; exact (three _ _ _ _).1
  have b1 : W1.heap[w.heap.size + 1]? = some (.cells #[.bool d.six, .int .u64 d.hi, .int .u64 d.lo, .int .i64 d.port] 42 (0, 0)) := by rw [← hW]; exact (three _ _ _ _).2.1
  have b2 : W1.heap[w.heap.size + 1 + 1]? = some (.cells #[.bool false, .int .u64 0, .int .u64 0, .int .i64 0] 42 (0, 0)) := by rw [← hW]; exact (three _ _ _ _).2.2.1
  clear hW
  refine (timeFault_ok T n now next _ at_ W1 (HH.out.below hb1).blk OK.out.t2 OK.out.t0 OK.out.t1).mono ?_
  rintro e w2 ⟨rfl, rfl⟩
  obtain ⟨lS, s0, s1, s2, s3⟩ := spotAt_of b0
  obtain ⟨lD, d0, d1, d2, d3⟩ := spotAt_of b1
  have B0 := Lib.hid b0
  have B1 := Lib.hid b1
  have B2 := Lib.hid b2
  have HB1 := Lib.hid hb1
  clear b0 b1 b2 hb1
  go_wp2_with fail
  refine wp_loop_rounds 3 ?_
  rw [rounds_succ]
  go_wp2_with fail
  refine (spotFault_any s _ hs0).mono ?_
  rintro e w2 ⟨rfl, hb⟩
  rw [HSP.out]
  have HB2 := Lib.hid (below_box (Below.refl _ W1) (Nat.le_refl _) hb)
  clear hb s0 s1 s2 s3 d0 d1 d2 d3
  go_wp2_with fail
  rw [rounds_succ]
  go_wp2_with fail
  refine (spotFault_any d _ hd0).mono ?_
  rintro e w3 ⟨rfl, hb⟩
  rw [HDP.out]
  have HB3 := Lib.hid (below_box HB2.out HB2.out.size hb)
  clear hb HB2
  go_wp2_with fail
  rw [rounds_succ]
  go_wp2_with fail
  have hT3 := HH.out.below (HB1.out.trans (HB3.out.mono HB1.out.size))
  refine (lasting_any T n now next A cap L at_ w3 hT3.blk hT3.ents (Nat.le_trans OK.out.len (by omega)) OK.out.t0 OK.out.t1 OK.out.le).mono ?_
  rintro e w4 ⟨rfl, hb⟩
  rw [OK.out.count]
  have HB4 := Lib.hid (HB3.out.trans (hb.mono HB3.out.size))
  clear hb hT3 HB3
  obtain ⟨lS, s0, s1, s2, s3⟩ := (spotAt_of B0.out).below HB4.out
  obtain ⟨lD, d0, d1, d2, d3⟩ := (spotAt_of B1.out).below HB4.out
  go_wp2_with fail
  have hT4 := HH.out.below (HB1.out.trans (HB4.out.mono HB1.out.size))
  refine (find_any T n now next A cap L at_ s d w4 hT4.blk hT4.ents (Nat.le_trans OK.out.len (by omega)) OK.out.t0 OK.out.t1 OK.out.le).mono ?_
  rintro e w5 ⟨rfl, hb⟩
  rw [HR.out]
  have hfu : decide ((L.length : Int) ≥ n.ports) = true := by simp; omega
  have HB5 := Lib.hid (HB4.out.trans (hb.mono HB4.out.size))
  clear hb hT4 HB4 s0 s1 s2 s3 d0 d1 d2 d3 lS lD
  have hT5 := HH.out.below (HB1.out.trans (HB5.out.mono HB1.out.size))
  have t4 := tr_cell hT5.blk 4
  simp only [List.getElem?_toArray, List.getElem?_cons_zero, List.getElem?_cons_succ] at t4
  have hfin := HB1.out.trans (HB5.out.mono HB1.out.size)
  have E2 := (HB5.out.block _ (lt_of_block B2.out)).trans B2.out
  have r0 := cell_of E2 0
  have r1 := cell_of E2 1
  have r2 := cell_of E2 2
  have r3 := cell_of E2 3
  simp only [List.getElem?_toArray, List.getElem?_cons_zero, List.getElem?_cons_succ] at r0 r1 r2 r3
  have rf : ∀ j, w5.frozen? ⟨w.heap.size + 1 + 1, j, none⟩ = false := fun j => by simp [World.frozen?, E2]
  have rf0 := rf 0
  have rf1 := rf 1
  have rf2 := rf 2
  have rf3 := rf 3
  have HFIN := Lib.hid hfin
  have HE2 := Lib.hid E2
  clear rf hfin E2 hT5
  go_wp2_with fail
  generalize hW : World.setCell _ _ _ = W12
  obtain ⟨hr3, hb12⟩ := set4 HE2.out (Nat.le_refl _) hW
  have y0 := cell_of hr3 0
  have y1 := cell_of hr3 1
  have y2 := cell_of hr3 2
  have y3 := cell_of hr3 3
  simp only [List.getElem?_toArray, List.getElem?_cons_zero, List.getElem?_cons_succ] at y0 y1 y2 y3
  refine bodyPost_ret (v := .tuple #[.agg #[.bool false, .int .u64 0, .int .u64 0, .int .i64 0], .int .i64 12]) (by simp [results, Tryz.results13, go_sem, y0, y1, y2, y3]) rfl ⟨rfl, HFIN.out.trans (hb12.mono (by omega))⟩
end Go.Proofs.YtphjgjcbolmdiaaGreatDoor
