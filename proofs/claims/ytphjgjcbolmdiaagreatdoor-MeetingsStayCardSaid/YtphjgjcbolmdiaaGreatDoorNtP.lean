/- Translators: In, New, Entries. -/
import Derived.Test.YtphjgjcbolmdiaaGreatDoorNtM
import Derived.Deep.Cut
namespace Go.Proofs.YtphjgjcbolmdiaaGreatDoor
open Go.RowKit Go.Hw

/-- Is this the entry that lets a packet in? -/
def letEnt (n : NatC) (s : Spot) (p : Int) (e : Ent) : Bool := e.port == p && (n.lets == 1 || e.sent.any (letsIn n s))

set_option maxRecDepth 100000 in
set_option maxHeartbeats 4000000 in
theorem in_any (T : Nat) (n : NatC) (now next : Int) (F : Nat → Prop) (A : Option Addr) (cap : Nat) (L : List Ent) (at_ : Int) (s : Spot) (p : Int) (w : World) (h : TrAt w F T n now next A cap L) (ok : Ok n now at_ L) (hF : ∀ k, F k → k < w.heap.size) (hsl : ∀ e ∈ L, e.sent.length ≤ 100000)
    (hs0 : 0 ≤ s.hi) (hs : spotCode s = 0) (hp : portCode p = 0) (i : Nat) (hi : i < L.length) (hno : ∀ j, j < i → letEnt n s p (L.getD j noEnt) = false) (hyes : letEnt n s p (L.getD i noEnt) = true) :
    Calls Tryz.prog 14 #[.pointer (some ⟨T, 0, none⟩), .int .i64 at_, .agg #[.bool s.six, .int .u64 s.hi, .int .u64 s.lo, .int .i64 s.port], .int .i64 p] w
      fun e w' => e = .returned (.tuple #[.agg #[.bool (L.getD i noEnt).inner.six, .int .u64 (L.getD i noEnt).inner.hi, .int .u64 (L.getD i noEnt).inner.lo, .int .i64 (L.getD i noEnt).inner.port], .bool true, .int .i64 0]) ∧ Chg F w w' ∧ TrAt w' F T n at_ next A cap L := by
  have HH := Lib.hid h
  have OK := Lib.hid ok
  have HSP := Lib.hid hs
  have HPP := Lib.hid hp
  have HNO := Lib.hid hno
  have HYES := Lib.hid hyes
  have HSL := Lib.hid hsl
  clear h ok hs hp hno hyes hsl
  go_enter Tryz.func14, Tryz.ntmps14
  go_wp2_with fail
  generalize hW : World.alloc _ _ = W1
  have hb1 : Below w.heap.size w W1 := by rw [← hW]; exact (three _ _ _ _).2.2.2
  have b0 : W1.heap[w.heap.size]? = some (.cells #[.pointer (some ⟨T, 0, none⟩)] 35 (0, 0)) := by rw [← hW]; exact (three _ _ _ _).1
  have b1 : W1.heap[w.heap.size + 1]? = some (.cells #[.bool s.six, .int .u64 s.hi, .int .u64 s.lo, .int .i64 s.port] 42 (0, 0)) := by rw [← hW]; exact (three _ _ _ _).2.1
  have b2 : W1.heap[w.heap.size + 1 + 1]? = some (.cells #[.bool false, .int .u64 0, .int .u64 0, .int .i64 0] 42 (0, 0)) := by rw [← hW]; exact (three _ _ _ _).2.2.1
  clear hW
  have k0 := cell_of_one b0
  obtain ⟨lS, s0, s1, s2, s3⟩ := spotAt_of b1
  have B0 := Lib.hid b0
  have B1 := Lib.hid b1
  have B2 := Lib.hid b2
  have HB1 := Lib.hid hb1
  clear b0 b1 b2 hb1
  go_wp2_with fail
  refine (timeFault_ok T n now next _ at_ W1 (HH.out.below HB1.out).blk OK.out.t2 OK.out.t0 OK.out.t1).mono ?_
  rintro e w2 ⟨rfl, rfl⟩
  go_wp2_with fail
  refine (spotFault_any s _ hs0).mono ?_
  rintro e w2 ⟨rfl, hb⟩
  rw [HSP.out]
  have k0' := (hb.cell (p := ⟨w.heap.size, 0, none⟩) (show w.heap.size < W1.heap.size by omega)).trans k0
  have HB2 := Lib.hid hb
  clear hb s0 s1 s2 s3 k0
  go_wp2_with fail
  refine (portFault_any p _).mono ?_
  rintro e w3 ⟨rfl, rfl⟩
  rw [HPP.out]
  go_wp2_with fail
  have hT5 := HH.out.below (HB1.out.trans (HB2.out.mono HB1.out.size))
  refine (pass_none T n now next A cap L at_ w2 hT5.blk hT5.ents (fun a e c => hT5.hA (by rw [e]; exact c)) (Nat.le_trans OK.out.len (by omega)) OK.out.t0 OK.out.t1 OK.out.le OK.out.all).mono ?_
  rintro e w6 ⟨rfl, hblk, hg⟩
  have hT6 := hT5.turn hg hblk
  have htl := tr_lt HH.out.blk
  have lS1 := lt_of_block B1.out
  have lR := lt_of_block B2.out
  have hsz := HB2.out.size
  have c0 := (hg.block w.heap.size (by omega) (fun e => by injection e with e; omega)).trans ((HB2.out.block _ (by omega)).trans B0.out)
  have c1 := (hg.block (w.heap.size + 1) (by omega) (fun e => by injection e with e; omega)).trans ((HB2.out.block _ lS1).trans B1.out)
  have c2 := (hg.block (w.heap.size + 1 + 1) (by omega) (fun e => by injection e with e; omega)).trans ((HB2.out.block _ lR).trans B2.out)
  have HC := Lib.hid (Chg.trans (Chg.of_below (F := F) (HB1.out.trans (HB2.out.mono HB1.out.size))) (Chg.of_grown hg (fun k e _ => .inl (by injection e with e; rw [← e]; exact HH.out.fT))))
  have HT6 := Lib.hid hT6
  have k0 := cell_of_one c0
  have t10 := tr_cell hT6.blk 10
  have lT := tr_lt hT6.blk
  simp only [List.getElem?_toArray, List.getElem?_cons_zero, List.getElem?_cons_succ] at t10
  have C0 := Lib.hid c0
  have C1 := Lib.hid c1
  have C2 := Lib.hid c2
  have lK := lt_of_block c0
  clear hblk hg hT6 hT5 lS lS1 lR hsz HB1 HB2 B0 B1 B2 c0 c1 c2 k0'
  go_wp2_with fail
  go_loopw [44] (fun v wr => ∃ k : Nat, v = .int .i64 k ∧ k ≤ i ∧ Below w6.heap.size w6 wr) (fun v _ => L.length - (intOf v).toNat)
  case atStart => exact ⟨0, rfl, Nat.zero_le _, Below.refl _ _⟩
  case round =>
    obtain ⟨k, rfl, hk, hb⟩ := hrel
    have hkl : k < L.length := by omega
    have hTr := HT6.out.below hb
    obtain ⟨g5, off, rfl, hgB, ⟨x0, x1, x2, x3, x4, x5, x6, x7, x8, x9, x10⟩⟩ := hTr.ents k hkl
    have hd : decide ((k : Int) < (L.length : Int)) = true := by simp; omega
    have HB := Lib.hid hb
    have m1 := tr_cell hTr.blk 1
    have lTr := tr_lt hTr.blk
    simp only [List.getElem?_toArray, List.getElem?_cons_zero, List.getElem?_cons_succ] at m1
    have r0 := (hb.cell (p := ⟨w.heap.size, 0, none⟩) lK).trans k0
    have lKr := Nat.lt_of_lt_of_le lK hb.size
    have hmem := getD_mem hkl
    have hspots := spots_at (hTr.sent _ hmem)
    have hslk := HSL.out _ hmem
    have hC1r := (hb.block _ (lt_of_block C1.out)).trans C1.out
    have hC0r := (hb.block _ (lt_of_block C0.out)).trans C0.out
    have hany := fun W (hbW : Below wr.heap.size wr W) => anyLet_any (L.getD k noEnt).sA (L.getD k noEnt).scap (L.getD k noEnt).sent T n at_ next _ w.heap.size (w.heap.size + 1) s W (hspots.below hbW) (Nat.le_trans hslk (by omega)) (tr_below hTr.blk hbW) ((spotAt_of hC1r).below hbW) ((oneAt_of hC0r).below hbW)
    have HC1r := Lib.hid hC1r
    have HC2 := Lib.hid ((hb.block _ (lt_of_block C2.out)).trans C2.out)
    have hcode : letEnt n s p (L.getD k noEnt) = ((L.getD k noEnt).port == p && (n.lets == 1 || (L.getD k noEnt).sent.any (letsIn n s))) := rfl
    have hkn : k < i → letEnt n s p (L.getD k noEnt) = false := fun h => HNO.out k h
    have hky : k = i → letEnt n s p (L.getD k noEnt) = true := fun h => by rw [h]; exact HYES.out
    have HFIN := Lib.hid (And.intro (HC.out.trans (Chg.of_below hb)) hTr)
    clear hb hTr hspots hC1r hC0r hslk hmem
    have HI : Hid (L.getD k noEnt = L.getD k noEnt) := Lib.hid rfl
    clear HI
    have hlen := OK.out.len
    have hlg : ∀ W, Below wr.heap.size wr W → (Chg F w W ∧ TrAt W F T n at_ next (some ⟨g5, off, none⟩) cap L) ∧ W.heap[w.heap.size + 1 + 1]? = some (.cells #[.bool false, .int .u64 0, .int .u64 0, .int .i64 0] 42 (0, 0)) :=
      fun W hbW => ⟨⟨HFIN.out.1.trans (Chg.of_below hbW), HFIN.out.2.below hbW⟩, (hbW.block _ (lt_of_block HC2.out)).trans HC2.out⟩
    have HLG := Lib.hid hlg
    clear hlg
    by_cases hlt : k < i
    · have h0 := hkn hlt
      rw [hcode] at h0
      clear hkn hky hcode
      generalize L.getD k noEnt = x at *
      cases hpq : x.port == p
      · have hpn : (x.port != p) = true := by simpa [bne] using hpq
        clear h0 hany
        go_wp2_with fail
        go_roundw
        case rel => exact ⟨k + 1, by go_num, hlt, HB.out.alloc HB.out.size _⟩
        case measure => simp [intOf]; omega
      · rw [hpq] at h0
        have hpn : (x.port != p) = false := by simpa [bne] using hpq
        cases hl : n.lets == 1
        · cases hA : x.sent.any (letsIn n s)
          · rw [hA] at hany
            clear h0
            go_wp2_with fail
            refine (hany _ ((Below.refl _ _).alloc (Nat.le_refl _) _)).mono ?_
            rintro e w1 ⟨rfl, hb1⟩
            have HB1 := Lib.hid (below_box HB.out HB.out.size hb1)
            clear hany hb1
            go_wp2_with fail
            go_roundw
            case rel => exact ⟨k + 1, by go_num, hlt, HB1.out⟩
            case measure => simp [intOf]; omega
          · rw [hl, hA] at h0; cases h0
        · rw [hl] at h0; cases h0
    · have hki : k = i := by omega
      have h0 := hky hki
      rw [hcode] at h0
      clear hkn hky hcode
      have HX : Hid (L.getD i noEnt = L.getD k noEnt) := Lib.hid (by rw [hki])
      clear hki hlt
      generalize L.getD k noEnt = x at *
      cases hpq : x.port == p
      · rw [hpq] at h0; cases h0
      · rw [hpq] at h0
        have hpn : (x.port != p) = false := by simpa [bne] using hpq
        cases hl : n.lets == 1
        · cases hA : x.sent.any (letsIn n s)
          · rw [hl, hA] at h0; cases h0
          · rw [hA] at hany
            clear h0
            go_wp2_with fail
            refine (hany _ ((Below.refl _ _).alloc (Nat.le_refl _) _)).mono ?_
            rintro e W5 ⟨rfl, hb1⟩
            have hb2 := below_box (Below.refl _ wr) (Nat.le_refl _) hb1
            have hbx := (hb1.block wr.heap.size (by simp)).trans (heap_alloc_new wr _)
            have v0 := cell_of hbx 0
            have v1 := cell_of hbx 1
            have v2 := cell_of hbx 2
            have v3 := cell_of hbx 3
            simp only [List.getElem?_toArray, List.getElem?_cons_zero, List.getElem?_cons_succ] at v0 v1 v2 v3
            have lBX := lt_of_block hbx
            have HW5 := Lib.hid (HLG.out W5 hb2).1
            have HRC := Lib.hid (HLG.out W5 hb2).2
            clear hany hb1 hb2 hbx x0 x1 x2 x3 x4 x5 x6 x7 x8 x9 x10
            -- the entry is handed back
            have f0 := cell_of HRC.out 0
            have f1 := cell_of HRC.out 1
            have f2 := cell_of HRC.out 2
            have f3 := cell_of HRC.out 3
            simp only [List.getElem?_toArray, List.getElem?_cons_zero, List.getElem?_cons_succ] at f0 f1 f2 f3
            have rf : ∀ j, W5.frozen? ⟨w.heap.size + 1 + 1, j, none⟩ = false := fun j => by simp [World.frozen?, HRC.out]
            have rf0 := rf 0
            have rf1 := rf 1
            have rf2 := rf 2
            have rf3 := rf 3
            have lR := lt_of_block HRC.out
            clear rf
            go_wp2_with fail
            generalize hW : World.setCell _ _ _ = W12
            obtain ⟨hr3, hb12⟩ := set4 HRC.out (Nat.le_refl _) hW
            have hoth : ∀ k, k ≠ w.heap.size + 1 + 1 → W12.heap[k]? = W5.heap[k]? := fun k hk => by rw [← hW, heap_set_other hk, heap_set_other hk, heap_set_other hk, heap_set_other hk]
            have y0 := cell_of hr3 0
            have y1 := cell_of hr3 1
            have y2 := cell_of hr3 2
            have y3 := cell_of hr3 3
            simp only [List.getElem?_toArray, List.getElem?_cons_zero, List.getElem?_cons_succ] at y0 y1 y2 y3
            refine bodyPost_ret (v := .tuple #[.agg #[.bool x.inner.six, .int .u64 x.inner.hi, .int .u64 x.inner.lo, .int .i64 x.inner.port], .bool true, .int .i64 0]) (by simp [results, Tryz.results14, go_sem, y0, y1, y2, y3]) rfl ⟨by rw [HX.out], HW5.out.1.trans (Chg.mk hb12.os hb12.tape hb12.output hb12.size fun k _ hn => hoth k (fun e => hn (.inr (by omega)))), HW5.out.2.keep (fun k hk _ => hoth k (by have := hF k hk; omega)) fun _ h => h⟩
        · have HW5' := Lib.hid (HLG.out (wr.alloc (.cells #[.bool x.inner.six, .int .u64 x.inner.hi, .int .u64 x.inner.lo, .int .i64 x.inner.port, .int .i64 x.port, .bool x.dep.six, .int .u64 x.dep.hi, .int .u64 x.dep.lo, .int .i64 x.dep.port, .int .i64 x.last, .slice x.sA x.sent.length x.scap] 97)) ((Below.refl _ _).alloc (Nat.le_refl _) _)).1
          have HRC' := Lib.hid (HLG.out (wr.alloc (.cells #[.bool x.inner.six, .int .u64 x.inner.hi, .int .u64 x.inner.lo, .int .i64 x.inner.port, .int .i64 x.port, .bool x.dep.six, .int .u64 x.dep.hi, .int .u64 x.dep.lo, .int .i64 x.dep.port, .int .i64 x.last, .slice x.sA x.sent.length x.scap] 97)) ((Below.refl _ _).alloc (Nat.le_refl _) _)).2
          have hbx := heap_alloc_new wr (.cells #[.bool x.inner.six, .int .u64 x.inner.hi, .int .u64 x.inner.lo, .int .i64 x.inner.port, .int .i64 x.port, .bool x.dep.six, .int .u64 x.dep.hi, .int .u64 x.dep.lo, .int .i64 x.dep.port, .int .i64 x.last, .slice x.sA x.sent.length x.scap] 97)
          clear h0 hany
          go_upto_region 17 with (fail)
          generalize hWW : World.alloc _ _ = W5 at HW5' HRC' hbx ⊢
          have HW5 := HW5'
          have HRC := HRC'
          have v0 := cell_of hbx 0
          have v1 := cell_of hbx 1
          have v2 := cell_of hbx 2
          have v3 := cell_of hbx 3
          simp only [List.getElem?_toArray, List.getElem?_cons_zero, List.getElem?_cons_succ] at v0 v1 v2 v3
          have lBX := lt_of_block hbx
          clear hWW hbx x0 x1 x2 x3 x4 x5 x6 x7 x8 x9 x10 HW5' HRC'
          -- the entry is handed back
          have f0 := cell_of HRC.out 0
          have f1 := cell_of HRC.out 1
          have f2 := cell_of HRC.out 2
          have f3 := cell_of HRC.out 3
          simp only [List.getElem?_toArray, List.getElem?_cons_zero, List.getElem?_cons_succ] at f0 f1 f2 f3
          have rf : ∀ j, W5.frozen? ⟨w.heap.size + 1 + 1, j, none⟩ = false := fun j => by simp [World.frozen?, HRC.out]
          have rf0 := rf 0
          have rf1 := rf 1
          have rf2 := rf 2
          have rf3 := rf 3
          have lR := lt_of_block HRC.out
          clear rf
          go_wp2_with fail
          generalize hW : World.setCell _ _ _ = W12
          obtain ⟨hr3, hb12⟩ := set4 HRC.out (Nat.le_refl _) hW
          have hoth : ∀ k, k ≠ w.heap.size + 1 + 1 → W12.heap[k]? = W5.heap[k]? := fun k hk => by rw [← hW, heap_set_other hk, heap_set_other hk, heap_set_other hk, heap_set_other hk]
          have y0 := cell_of hr3 0
          have y1 := cell_of hr3 1
          have y2 := cell_of hr3 2
          have y3 := cell_of hr3 3
          simp only [List.getElem?_toArray, List.getElem?_cons_zero, List.getElem?_cons_succ] at y0 y1 y2 y3
          refine bodyPost_ret (v := .tuple #[.agg #[.bool x.inner.six, .int .u64 x.inner.hi, .int .u64 x.inner.lo, .int .i64 x.inner.port], .bool true, .int .i64 0]) (by simp [results, Tryz.results14, go_sem, y0, y1, y2, y3]) rfl ⟨by rw [HX.out], HW5.out.1.trans (Chg.mk hb12.os hb12.tape hb12.output hb12.size fun k _ hn => hoth k (fun e => hn (.inr (by omega)))), HW5.out.2.keep (fun k hk _ => hoth k (by have := hF k hk; omega)) fun _ h => h⟩
end Go.Proofs.YtphjgjcbolmdiaaGreatDoor
