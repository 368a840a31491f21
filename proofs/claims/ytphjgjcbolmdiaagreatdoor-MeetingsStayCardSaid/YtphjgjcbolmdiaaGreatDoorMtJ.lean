/- Translators: Out where there is no room, In, whatever goes. Translators: In, where nothing lets in, whatever goes. Translators: what Out and In compute, in plain words. Translators: Out and In compute what the plain words say. Two nodes behind translators, in plain words: what each hears stays, and when. Two nodes behind translators, in plain words: what stays right; where both map by nothing, both hear. Two nodes behind translators, in memory. -/
import Derived.Test.YtphjgjcbolmdiaaGreatDoorMtC
import Derived.Deep.Cut
import Derived.Test.YtphjgjcbolmdiaaGreatDoorNtP
import Derived.Test.YtphjgjcbolmdiaaGreatDoorMtD
import Derived.Test.YtphjgjcbolmdiaaGreatDoorNtT
namespace Go.Proofs.YtphjgjcbolmdiaaGreatDoor
open Go.RowKit Go.Hw

set_option maxRecDepth 100000 in
set_option maxHeartbeats 4000000 in
theorem out_full2 (T : Nat) (n : NatC) (now next : Int) (F : Nat → Prop) (A : Option Addr) (cap : Nat) (L : List Ent) (at_ : Int) (s d : Spot) (w : World) (h : TrAt w F T n now next A cap L) (ok : Oks n now at_ L) (L1 : List Ent) (hL1 : L.filter (lasts n at_) = L1)
    (hs0 : 0 ≤ s.hi) (hd0 : 0 ≤ d.hi) (hs : spotCode s = 0) (hd : spotCode d = 0) (hr : idxP (isEntry n at_ s (seenS d n.maps)) L = -1) (hfull : n.ports ≤ (L1.length : Int)) :
    Calls Tryz.prog 13 #[.pointer (some ⟨T, 0, none⟩), .int .i64 at_, .agg #[.bool s.six, .int .u64 s.hi, .int .u64 s.lo, .int .i64 s.port], .agg #[.bool d.six, .int .u64 d.hi, .int .u64 d.lo, .int .i64 d.port]] w
      fun e w' => e = .returned (.tuple #[.agg #[.bool false, .int .u64 0, .int .u64 0, .int .i64 0], .int .i64 12]) ∧ Below w.heap.size w w' := by
  have p0 := pair0 (.bool s.six) (.int .u64 s.hi) (.int .u64 s.lo) (.int .i64 s.port) (.bool d.six) (.int .u64 d.hi) (.int .u64 d.lo) (.int .i64 d.port)
  have p1 := pair1 (.bool s.six) (.int .u64 s.hi) (.int .u64 s.lo) (.int .i64 s.port) (.bool d.six) (.int .u64 d.hi) (.int .u64 d.lo) (.int .i64 d.port)
  have HH := Lib.hid h
  have OK := Lib.hid ok
  have OK1 := Lib.hid (ok.only hL1)
  have HL1 := Lib.hid hL1
  have HSUB := Lib.hid (show ∀ e, e ∈ L1 → e ∈ L from fun e he => by rw [← hL1] at he; exact (List.mem_filter.1 he).1)
  have HR := Lib.hid hr
  have HSP := Lib.hid hs
  have HDP := Lib.hid hd
  clear h ok hL1 hr hs hd
  go_enter Tryz.func13, Tryz.ntmps13
  go_wp2_with fail
  generalize hW : World.alloc _ _ = W1
  have hb1 : Below w.heap.size w W1 := by rw [← hW]; exact (three _ _ _ _).2.2.2
  have b0 : W1.heap[w.heap.size]? = some (.cells #[.bool s.six, .int .u64 s.hi, .int .u64 s.lo, .int .i64 s.port] 42 (0, 0)) := by rw [← hW]; exact (three _ _ _ _).1
  have b1 : W1.heap[w.heap.size + 1]? = some (.cells #[.bool d.six, .int .u64 d.hi, .int .u64 d.lo, .int .i64 d.port] 42 (0, 0)) := by rw [← hW]; exact (three _ _ _ _).2.1
  have b2 : W1.heap[w.heap.size + 1 + 1]? = some (.cells #[.bool false, .int .u64 0, .int .u64 0, .int .i64 0] 42 (0, 0)) := by rw [← hW]; exact (three _ _ _ _).2.2.1
  clear hW
  refine (timeFault_ok T n now next _ at_ W1 (HH.out.below hb1).blk OK.out.t2 OK.out.t0 OK.out.t1).mono ?_
  rintro e w2 ⟨rfl, rfl⟩
  obtain ⟨lS, s0, s1, s2, s3⟩ := spotAt_of b0
  obtain ⟨lD, d0, d1, d2, d3⟩ := spotAt_of b1
  have B0 := Lib.hid b0
  have B1 := Lib.hid b1
  have B2 := Lib.hid b2
  have HB1 := Lib.hid hb1
  clear b0 b1 b2 hb1
  go_wp2_with fail
  refine wp_loop_rounds 3 ?_
  rw [rounds_succ]
  go_wp2_with fail
  refine (spotFault_any s _ hs0).mono ?_
  rintro e w2 ⟨rfl, hb⟩
  rw [HSP.out]
  have HB2 := Lib.hid (below_box (Below.refl _ W1) (Nat.le_refl _) hb)
  clear hb s0 s1 s2 s3 d0 d1 d2 d3
  go_wp2_with fail
  rw [rounds_succ]
  go_wp2_with fail
  refine (spotFault_any d _ hd0).mono ?_
  rintro e w3 ⟨rfl, hb⟩
  rw [HDP.out]
  have HB3 := Lib.hid (below_box HB2.out HB2.out.size hb)
  clear hb HB2
  go_wp2_with fail
  rw [rounds_succ]
  go_wp2_with fail
  have hT3 := HH.out.below (HB1.out.trans (HB3.out.mono HB1.out.size))
  refine (lasting_any T n now next A cap L at_ w3 hT3.blk hT3.ents (Nat.le_trans OK.out.len (by omega)) OK.out.t0 OK.out.t1 OK.out.le).mono ?_
  rintro e w4 ⟨rfl, hb⟩
  rw [count_only HL1.out]
  have HB4 := Lib.hid (HB3.out.trans (hb.mono HB3.out.size))
  clear hb hT3 HB3
  obtain ⟨lS, s0, s1, s2, s3⟩ := (spotAt_of B0.out).below HB4.out
  obtain ⟨lD, d0, d1, d2, d3⟩ := (spotAt_of B1.out).below HB4.out
  go_wp2_with fail
  have hT4 := HH.out.below (HB1.out.trans (HB4.out.mono HB1.out.size))
  refine (find_any T n now next A cap L at_ s d w4 hT4.blk hT4.ents (Nat.le_trans OK.out.len (by omega)) OK.out.t0 OK.out.t1 OK.out.le).mono ?_
  rintro e w5 ⟨rfl, hb⟩
  rw [HR.out]
  have hfu : decide ((L1.length : Int) ≥ n.ports) = true := by simp; omega
  have HB5 := Lib.hid (HB4.out.trans (hb.mono HB4.out.size))
  clear hb hT4 HB4 s0 s1 s2 s3 d0 d1 d2 d3 lS lD
  have hT5 := HH.out.below (HB1.out.trans (HB5.out.mono HB1.out.size))
  have t4 := tr_cell hT5.blk 4
  simp only [List.getElem?_toArray, List.getElem?_cons_zero, List.getElem?_cons_succ] at t4
  have hfin := HB1.out.trans (HB5.out.mono HB1.out.size)
  have E2 := (HB5.out.block _ (lt_of_block B2.out)).trans B2.out
  have r0 := cell_of E2 0
  have r1 := cell_of E2 1
  have r2 := cell_of E2 2
  have r3 := cell_of E2 3
  simp only [List.getElem?_toArray, List.getElem?_cons_zero, List.getElem?_cons_succ] at r0 r1 r2 r3
  have rf : ∀ j, w5.frozen? ⟨w.heap.size + 1 + 1, j, none⟩ = false := fun j => by simp [World.frozen?, E2]
  have rf0 := rf 0
  have rf1 := rf 1
  have rf2 := rf 2
  have rf3 := rf 3
  have HFIN := Lib.hid hfin
  have HE2 := Lib.hid E2
  clear rf hfin E2 hT5
  go_wp2_with fail
  generalize hW : World.setCell _ _ _ = W12
  obtain ⟨hr3, hb12⟩ := set4 HE2.out (Nat.le_refl _) hW
  have y0 := cell_of hr3 0
  have y1 := cell_of hr3 1
  have y2 := cell_of hr3 2
  have y3 := cell_of hr3 3
  simp only [List.getElem?_toArray, List.getElem?_cons_zero, List.getElem?_cons_succ] at y0 y1 y2 y3
  refine bodyPost_ret (v := .tuple #[.agg #[.bool false, .int .u64 0, .int .u64 0, .int .i64 0], .int .i64 12]) (by simp [results, Tryz.results13, go_sem, y0, y1, y2, y3]) rfl ⟨rfl, HFIN.out.trans (hb12.mono (by omega))⟩

set_option maxRecDepth 100000 in
set_option maxHeartbeats 4000000 in
theorem in_any2 (T : Nat) (n : NatC) (now next : Int) (F : Nat → Prop) (A : Option Addr) (cap : Nat) (L : List Ent) (at_ : Int) (s : Spot) (p : Int) (w : World) (h : TrAt w F T n now next A cap L) (ok : Oks n now at_ L) (L1 : List Ent) (hL1 : L.filter (lasts n at_) = L1) (hF : ∀ k, F k → k < w.heap.size) (hsl : ∀ e ∈ L1, e.sent.length ≤ 100000)
    (hs0 : 0 ≤ s.hi) (hs : spotCode s = 0) (hp : portCode p = 0) (i : Nat) (hi : i < L1.length) (hno : ∀ j, j < i → letEnt n s p (L1.getD j noEnt) = false) (hyes : letEnt n s p (L1.getD i noEnt) = true) :
    Calls Tryz.prog 14 #[.pointer (some ⟨T, 0, none⟩), .int .i64 at_, .agg #[.bool s.six, .int .u64 s.hi, .int .u64 s.lo, .int .i64 s.port], .int .i64 p] w
      fun e w' => e = .returned (.tuple #[.agg #[.bool (L1.getD i noEnt).inner.six, .int .u64 (L1.getD i noEnt).inner.hi, .int .u64 (L1.getD i noEnt).inner.lo, .int .i64 (L1.getD i noEnt).inner.port], .bool true, .int .i64 0]) ∧ Chg F w w' ∧ TrAt w' F T n at_ next A cap L1 := by
  have HH := Lib.hid h
  have OK := Lib.hid ok
  have OK1 := Lib.hid (ok.only hL1)
  have HL1 := Lib.hid hL1
  have HSUB := Lib.hid (show ∀ e, e ∈ L1 → e ∈ L from fun e he => by rw [← hL1] at he; exact (List.mem_filter.1 he).1)
  have HSP := Lib.hid hs
  have HPP := Lib.hid hp
  have HNO := Lib.hid hno
  have HYES := Lib.hid hyes
  have HSL := Lib.hid hsl
  clear h ok hL1 hs hp hno hyes hsl
  go_enter Tryz.func14, Tryz.ntmps14
  go_wp2_with fail
  generalize hW : World.alloc _ _ = W1
  have hb1 : Below w.heap.size w W1 := by rw [← hW]; exact (three _ _ _ _).2.2.2
  have b0 : W1.heap[w.heap.size]? = some (.cells #[.pointer (some ⟨T, 0, none⟩)] 35 (0, 0)) := by rw [← hW]; exact (three _ _ _ _).1
  have b1 : W1.heap[w.heap.size + 1]? = some (.cells #[.bool s.six, .int .u64 s.hi, .int .u64 s.lo, .int .i64 s.port] 42 (0, 0)) := by rw [← hW]; exact (three _ _ _ _).2.1
  have b2 : W1.heap[w.heap.size + 1 + 1]? = some (.cells #[.bool false, .int .u64 0, .int .u64 0, .int .i64 0] 42 (0, 0)) := by rw [← hW]; exact (three _ _ _ _).2.2.1
  clear hW
  have k0 := cell_of_one b0
  obtain ⟨lS, s0, s1, s2, s3⟩ := spotAt_of b1
  have B0 := Lib.hid b0
  have B1 := Lib.hid b1
  have B2 := Lib.hid b2
  have HB1 := Lib.hid hb1
  clear b0 b1 b2 hb1
  go_wp2_with fail
  refine (timeFault_ok T n now next _ at_ W1 (HH.out.below HB1.out).blk OK.out.t2 OK.out.t0 OK.out.t1).mono ?_
  rintro e w2 ⟨rfl, rfl⟩
  go_wp2_with fail
  refine (spotFault_any s _ hs0).mono ?_
  rintro e w2 ⟨rfl, hb⟩
  rw [HSP.out]
  have k0' := (hb.cell (p := ⟨w.heap.size, 0, none⟩) (show w.heap.size < W1.heap.size by omega)).trans k0
  have HB2 := Lib.hid hb
  clear hb s0 s1 s2 s3 k0
  go_wp2_with fail
  refine (portFault_any p _).mono ?_
  rintro e w3 ⟨rfl, rfl⟩
  rw [HPP.out]
  go_wp2_with fail
  have hT5 := HH.out.below (HB1.out.trans (HB2.out.mono HB1.out.size))
  refine (pass_any T n now next F A cap L at_ w2 hT5 (Nat.le_trans OK.out.len (by omega)) OK.out.t0 OK.out.t1 OK.out.le).mono ?_
  rintro e w6 ⟨rfl, hT6, hg⟩
  rw [HL1.out] at hT6
  have htl := tr_lt HH.out.blk
  have lS1 := lt_of_block B1.out
  have lR := lt_of_block B2.out
  have hsz := HB2.out.size
  have c0 := (hg.block w.heap.size (by omega) (fun c => by have := hF _ c; omega)).trans ((HB2.out.block _ (by omega)).trans B0.out)
  have c1 := (hg.block (w.heap.size + 1) (by omega) (fun c => by have := hF _ c; omega)).trans ((HB2.out.block _ lS1).trans B1.out)
  have c2 := (hg.block (w.heap.size + 1 + 1) (by omega) (fun c => by have := hF _ c; omega)).trans ((HB2.out.block _ lR).trans B2.out)
  have HC := Lib.hid (Chg.trans (Chg.of_below (F := F) (HB1.out.trans (HB2.out.mono HB1.out.size))) (hg.mono fun k _ hk => .inl hk))
  have HT6 := Lib.hid hT6
  have k0 := cell_of_one c0
  have t10 := tr_cell hT6.blk 10
  have lT := tr_lt hT6.blk
  simp only [List.getElem?_toArray, List.getElem?_cons_zero, List.getElem?_cons_succ] at t10
  have C0 := Lib.hid c0
  have C1 := Lib.hid c1
  have C2 := Lib.hid c2
  have lK := lt_of_block c0
  clear hg hT6 hT5 lS lS1 lR hsz HB1 HB2 B0 B1 B2 c0 c1 c2 k0'
  go_wp2_with fail
  go_loopw [44] (fun v wr => ∃ k : Nat, v = .int .i64 k ∧ k ≤ i ∧ Below w6.heap.size w6 wr) (fun v _ => L1.length - (intOf v).toNat)
  case atStart => exact ⟨0, rfl, Nat.zero_le _, Below.refl _ _⟩
  case round =>
    obtain ⟨k, rfl, hk, hb⟩ := hrel
    have hkl : k < L1.length := by omega
    have hTr := HT6.out.below hb
    obtain ⟨g5, off, rfl, hgB, ⟨x0, x1, x2, x3, x4, x5, x6, x7, x8, x9, x10⟩⟩ := hTr.ents k hkl
    have hd : decide ((k : Int) < (L1.length : Int)) = true := by simp; omega
    have HB := Lib.hid hb
    have m1 := tr_cell hTr.blk 1
    have lTr := tr_lt hTr.blk
    simp only [List.getElem?_toArray, List.getElem?_cons_zero, List.getElem?_cons_succ] at m1
    have r0 := (hb.cell (p := ⟨w.heap.size, 0, none⟩) lK).trans k0
    have lKr := Nat.lt_of_lt_of_le lK hb.size
    have hmem := getD_mem hkl
    have hspots := spots_at (hTr.sent _ hmem)
    have hslk := HSL.out _ hmem
    have hC1r := (hb.block _ (lt_of_block C1.out)).trans C1.out
    have hC0r := (hb.block _ (lt_of_block C0.out)).trans C0.out
    have hany := fun W (hbW : Below wr.heap.size wr W) => anyLet_any (L1.getD k noEnt).sA (L1.getD k noEnt).scap (L1.getD k noEnt).sent T n at_ next _ w.heap.size (w.heap.size + 1) s W (hspots.below hbW) (Nat.le_trans hslk (by omega)) (tr_below hTr.blk hbW) ((spotAt_of hC1r).below hbW) ((oneAt_of hC0r).below hbW)
    have HC1r := Lib.hid hC1r
    have HC2 := Lib.hid ((hb.block _ (lt_of_block C2.out)).trans C2.out)
    have hcode : letEnt n s p (L1.getD k noEnt) = ((L1.getD k noEnt).port == p && (n.lets == 1 || (L1.getD k noEnt).sent.any (letsIn n s))) := rfl
    have hkn : k < i → letEnt n s p (L1.getD k noEnt) = false := fun h => HNO.out k h
    have hky : k = i → letEnt n s p (L1.getD k noEnt) = true := fun h => by rw [h]; exact HYES.out
    have HFIN := Lib.hid (And.intro (HC.out.trans (Chg.of_below hb)) hTr)
    clear hb hTr hspots hC1r hC0r hslk hmem
    have HI : Hid (L1.getD k noEnt = L1.getD k noEnt) := Lib.hid rfl
    clear HI
    have hlen := OK1.out.len
    have hlg : ∀ W, Below wr.heap.size wr W → (Chg F w W ∧ TrAt W F T n at_ next (some ⟨g5, off, none⟩) cap L1) ∧ W.heap[w.heap.size + 1 + 1]? = some (.cells #[.bool false, .int .u64 0, .int .u64 0, .int .i64 0] 42 (0, 0)) :=
      fun W hbW => ⟨⟨HFIN.out.1.trans (Chg.of_below hbW), HFIN.out.2.below hbW⟩, (hbW.block _ (lt_of_block HC2.out)).trans HC2.out⟩
    have HLG := Lib.hid hlg
    clear hlg
    by_cases hlt : k < i
    · have h0 := hkn hlt
      rw [hcode] at h0
      clear hkn hky hcode
      generalize L1.getD k noEnt = x at *
      cases hpq : x.port == p
      · have hpn : (x.port != p) = true := by simpa [bne] using hpq
        clear h0 hany
        go_wp2_with fail
        go_roundw
        case rel => exact ⟨k + 1, by go_num, hlt, HB.out.alloc HB.out.size _⟩
        case measure => simp [intOf]; omega
      · rw [hpq] at h0
        have hpn : (x.port != p) = false := by simpa [bne] using hpq
        cases hl : n.lets == 1
        · cases hA : x.sent.any (letsIn n s)
          · rw [hA] at hany
            clear h0
            go_wp2_with fail
            refine (hany _ ((Below.refl _ _).alloc (Nat.le_refl _) _)).mono ?_
            rintro e w1 ⟨rfl, hb1⟩
            have HB1 := Lib.hid (below_box HB.out HB.out.size hb1)
            clear hany hb1
            go_wp2_with fail
            go_roundw
            case rel => exact ⟨k + 1, by go_num, hlt, HB1.out⟩
            case measure => simp [intOf]; omega
          · rw [hl, hA] at h0; cases h0
        · rw [hl] at h0; cases h0
    · have hki : k = i := by omega
      have h0 := hky hki
      rw [hcode] at h0
      clear hkn hky hcode
      have HX : Hid (L1.getD i noEnt = L1.getD k noEnt) := Lib.hid (by rw [hki])
      clear hki hlt
      generalize L1.getD k noEnt = x at *
      cases hpq : x.port == p
      · rw [hpq] at h0; cases h0
      · rw [hpq] at h0
        have hpn : (x.port != p) = false := by simpa [bne] using hpq
        cases hl : n.lets == 1
        · cases hA : x.sent.any (letsIn n s)
          · rw [hl, hA] at h0; cases h0
          · rw [hA] at hany
            clear h0
            go_wp2_with fail
            refine (hany _ ((Below.refl _ _).alloc (Nat.le_refl _) _)).mono ?_
            rintro e W5 ⟨rfl, hb1⟩
            have hb2 := below_box (Below.refl _ wr) (Nat.le_refl _) hb1
            have hbx := (hb1.block wr.heap.size (by simp)).trans (heap_alloc_new wr _)
            have v0 := cell_of hbx 0
            have v1 := cell_of hbx 1
            have v2 := cell_of hbx 2
            have v3 := cell_of hbx 3
            simp only [List.getElem?_toArray, List.getElem?_cons_zero, List.getElem?_cons_succ] at v0 v1 v2 v3
            have lBX := lt_of_block hbx
            have HW5 := Lib.hid (HLG.out W5 hb2).1
            have HRC := Lib.hid (HLG.out W5 hb2).2
            clear hany hb1 hb2 hbx x0 x1 x2 x3 x4 x5 x6 x7 x8 x9 x10
            -- the entry is handed back
            have f0 := cell_of HRC.out 0
            have f1 := cell_of HRC.out 1
            have f2 := cell_of HRC.out 2
            have f3 := cell_of HRC.out 3
            simp only [List.getElem?_toArray, List.getElem?_cons_zero, List.getElem?_cons_succ] at f0 f1 f2 f3
            have rf : ∀ j, W5.frozen? ⟨w.heap.size + 1 + 1, j, none⟩ = false := fun j => by simp [World.frozen?, HRC.out]
            have rf0 := rf 0
            have rf1 := rf 1
            have rf2 := rf 2
            have rf3 := rf 3
            have lR := lt_of_block HRC.out
            clear rf
            go_wp2_with fail
            generalize hW : World.setCell _ _ _ = W12
            obtain ⟨hr3, hb12⟩ := set4 HRC.out (Nat.le_refl _) hW
            have hoth : ∀ k, k ≠ w.heap.size + 1 + 1 → W12.heap[k]? = W5.heap[k]? := fun k hk => by rw [← hW, heap_set_other hk, heap_set_other hk, heap_set_other hk, heap_set_other hk]
            have y0 := cell_of hr3 0
            have y1 := cell_of hr3 1
            have y2 := cell_of hr3 2
            have y3 := cell_of hr3 3
            simp only [List.getElem?_toArray, List.getElem?_cons_zero, List.getElem?_cons_succ] at y0 y1 y2 y3
            refine bodyPost_ret (v := .tuple #[.agg #[.bool x.inner.six, .int .u64 x.inner.hi, .int .u64 x.inner.lo, .int .i64 x.inner.port], .bool true, .int .i64 0]) (by simp [results, Tryz.results14, go_sem, y0, y1, y2, y3]) rfl ⟨by rw [HX.out], HW5.out.1.trans (Chg.mk hb12.os hb12.tape hb12.output hb12.size fun k _ hn => hoth k (fun e => hn (.inr (by omega)))), HW5.out.2.keep (fun k hk _ => hoth k (by have := hF k hk; omega)) fun _ h => h⟩
        · have HW5' := Lib.hid (HLG.out (wr.alloc (.cells #[.bool x.inner.six, .int .u64 x.inner.hi, .int .u64 x.inner.lo, .int .i64 x.inner.port, .int .i64 x.port, .bool x.dep.six, .int .u64 x.dep.hi, .int .u64 x.dep.lo, .int .i64 x.dep.port, .int .i64 x.last, .slice x.sA x.sent.length x.scap] 97)) ((Below.refl _ _).alloc (Nat.le_refl _) _)).1
          have HRC' := Lib.hid (HLG.out (wr.alloc (.cells #[.bool x.inner.six, .int .u64 x.inner.hi, .int .u64 x.inner.lo, .int .i64 x.inner.port, .int .i64 x.port, .bool x.dep.six, .int .u64 x.dep.hi, .int .u64 x.dep.lo, .int .i64 x.dep.port, .int .i64 x.last, .slice x.sA x.sent.length x.scap] 97)) ((Below.refl _ _).alloc (Nat.le_refl _) _)).2
          have hbx := heap_alloc_new wr (.cells #[.bool x.inner.six, .int .u64 x.inner.hi, .int .u64 x.inner.lo, .int .i64 x.inner.port, .int .i64 x.port, .bool x.dep.six, .int .u64 x.dep.hi, .int .u64 x.dep.lo, .int .i64 x.dep.port, .int .i64 x.last, .slice x.sA x.sent.length x.scap] 97)
          clear h0 hany
          go_upto_region 17 with (fail)
          generalize hWW : World.alloc _ _ = W5 at HW5' HRC' hbx ⊢
          have HW5 := HW5'
          have HRC := HRC'
          have v0 := cell_of hbx 0
          have v1 := cell_of hbx 1
          have v2 := cell_of hbx 2
          have v3 := cell_of hbx 3
          simp only [List.getElem?_toArray, List.getElem?_cons_zero, List.getElem?_cons_succ] at v0 v1 v2 v3
          have lBX := lt_of_block hbx
          clear hWW hbx x0 x1 x2 x3 x4 x5 x6 x7 x8 x9 x10 HW5' HRC'
          -- the entry is handed back
          have f0 := cell_of HRC.out 0
          have f1 := cell_of HRC.out 1
          have f2 := cell_of HRC.out 2
          have f3 := cell_of HRC.out 3
          simp only [List.getElem?_toArray, List.getElem?_cons_zero, List.getElem?_cons_succ] at f0 f1 f2 f3
          have rf : ∀ j, W5.frozen? ⟨w.heap.size + 1 + 1, j, none⟩ = false := fun j => by simp [World.frozen?, HRC.out]
          have rf0 := rf 0
          have rf1 := rf 1
          have rf2 := rf 2
          have rf3 := rf 3
          have lR := lt_of_block HRC.out
          clear rf
          go_wp2_with fail
          generalize hW : World.setCell _ _ _ = W12
          obtain ⟨hr3, hb12⟩ := set4 HRC.out (Nat.le_refl _) hW
          have hoth : ∀ k, k ≠ w.heap.size + 1 + 1 → W12.heap[k]? = W5.heap[k]? := fun k hk => by rw [← hW, heap_set_other hk, heap_set_other hk, heap_set_other hk, heap_set_other hk]
          have y0 := cell_of hr3 0
          have y1 := cell_of hr3 1
          have y2 := cell_of hr3 2
          have y3 := cell_of hr3 3
          simp only [List.getElem?_toArray, List.getElem?_cons_zero, List.getElem?_cons_succ] at y0 y1 y2 y3
          refine bodyPost_ret (v := .tuple #[.agg #[.bool x.inner.six, .int .u64 x.inner.hi, .int .u64 x.inner.lo, .int .i64 x.inner.port], .bool true, .int .i64 0]) (by simp [results, Tryz.results14, go_sem, y0, y1, y2, y3]) rfl ⟨by rw [HX.out], HW5.out.1.trans (Chg.mk hb12.os hb12.tape hb12.output hb12.size fun k _ hn => hoth k (fun e => hn (.inr (by omega)))), HW5.out.2.keep (fun k hk _ => hoth k (by have := hF k hk; omega)) fun _ h => h⟩
end Go.Proofs.YtphjgjcbolmdiaaGreatDoor

namespace Go.Proofs.YtphjgjcbolmdiaaGreatDoor
open Go.RowKit Go.Hw

set_option maxRecDepth 100000 in
set_option maxHeartbeats 4000000 in
theorem in_none2 (T : Nat) (n : NatC) (now next : Int) (F : Nat → Prop) (A : Option Addr) (cap : Nat) (L : List Ent) (at_ : Int) (s : Spot) (p : Int) (w : World) (h : TrAt w F T n now next A cap L) (ok : Oks n now at_ L) (L1 : List Ent) (hL1 : L.filter (lasts n at_) = L1) (hF : ∀ k, F k → k < w.heap.size) (hsl : ∀ e ∈ L1, e.sent.length ≤ 100000)
    (hs0 : 0 ≤ s.hi) (hs : spotCode s = 0) (hp : portCode p = 0) (hno : ∀ j, j < L1.length → letEnt n s p (L1.getD j noEnt) = false) :
    Calls Tryz.prog 14 #[.pointer (some ⟨T, 0, none⟩), .int .i64 at_, .agg #[.bool s.six, .int .u64 s.hi, .int .u64 s.lo, .int .i64 s.port], .int .i64 p] w
      fun e w' => e = .returned (.tuple #[.agg #[.bool false, .int .u64 0, .int .u64 0, .int .i64 0], .bool false, .int .i64 0]) ∧ Chg F w w' ∧ TrAt w' F T n at_ next A cap L1 := by
  have HH := Lib.hid h
  have OK := Lib.hid ok
  have OK1 := Lib.hid (ok.only hL1)
  have HL1 := Lib.hid hL1
  have HSUB := Lib.hid (show ∀ e, e ∈ L1 → e ∈ L from fun e he => by rw [← hL1] at he; exact (List.mem_filter.1 he).1)
  have HSP := Lib.hid hs
  have HPP := Lib.hid hp
  have HNO := Lib.hid hno
  have HSL := Lib.hid hsl
  clear h ok hL1 hs hp hno hsl
  go_enter Tryz.func14, Tryz.ntmps14
  go_wp2_with fail
  generalize hW : World.alloc _ _ = W1
  have hb1 : Below w.heap.size w W1 := by rw [← hW]; exact (three _ _ _ _).2.2.2
  have b0 : W1.heap[w.heap.size]? = some (.cells #[.pointer (some ⟨T, 0, none⟩)] 35 (0, 0)) := by rw [← hW]; exact (three _ _ _ _).1
  have b1 : W1.heap[w.heap.size + 1]? = some (.cells #[.bool s.six, .int .u64 s.hi, .int .u64 s.lo, .int .i64 s.port] 42 (0, 0)) := by rw [← hW]; exact (three _ _ _ _).2.1
  have b2 : W1.heap[w.heap.size + 1 + 1]? = some (.cells #[.bool false, .int .u64 0, .int .u64 0, .int .i64 0] 42 (0, 0)) := by rw [← hW]; exact (three _ _ _ _).2.2.1
  clear hW
  have k0 := cell_of_one b0
  obtain ⟨lS, s0, s1, s2, s3⟩ := spotAt_of b1
  have B0 := Lib.hid b0
  have B1 := Lib.hid b1
  have B2 := Lib.hid b2
  have HB1 := Lib.hid hb1
  clear b0 b1 b2 hb1
  go_wp2_with fail
  refine (timeFault_ok T n now next _ at_ W1 (HH.out.below HB1.out).blk OK.out.t2 OK.out.t0 OK.out.t1).mono ?_
  rintro e w2 ⟨rfl, rfl⟩
  go_wp2_with fail
  refine (spotFault_any s _ hs0).mono ?_
  rintro e w2 ⟨rfl, hb⟩
  rw [HSP.out]
  have k0' := (hb.cell (p := ⟨w.heap.size, 0, none⟩) (show w.heap.size < W1.heap.size by omega)).trans k0
  have HB2 := Lib.hid hb
  clear hb s0 s1 s2 s3 k0
  go_wp2_with fail
  refine (portFault_any p _).mono ?_
  rintro e w3 ⟨rfl, rfl⟩
  rw [HPP.out]
  go_wp2_with fail
  have hT5 := HH.out.below (HB1.out.trans (HB2.out.mono HB1.out.size))
  refine (pass_any T n now next F A cap L at_ w2 hT5 (Nat.le_trans OK.out.len (by omega)) OK.out.t0 OK.out.t1 OK.out.le).mono ?_
  rintro e w6 ⟨rfl, hT6, hg⟩
  rw [HL1.out] at hT6
  have htl := tr_lt HH.out.blk
  have lS1 := lt_of_block B1.out
  have lR := lt_of_block B2.out
  have hsz := HB2.out.size
  have c0 := (hg.block w.heap.size (by omega) (fun c => by have := hF _ c; omega)).trans ((HB2.out.block _ (by omega)).trans B0.out)
  have c1 := (hg.block (w.heap.size + 1) (by omega) (fun c => by have := hF _ c; omega)).trans ((HB2.out.block _ lS1).trans B1.out)
  have c2 := (hg.block (w.heap.size + 1 + 1) (by omega) (fun c => by have := hF _ c; omega)).trans ((HB2.out.block _ lR).trans B2.out)
  have HC := Lib.hid (Chg.trans (Chg.of_below (F := F) (HB1.out.trans (HB2.out.mono HB1.out.size))) (hg.mono fun k _ hk => .inl hk))
  have HT6 := Lib.hid hT6
  have k0 := cell_of_one c0
  have t10 := tr_cell hT6.blk 10
  have lT := tr_lt hT6.blk
  simp only [List.getElem?_toArray, List.getElem?_cons_zero, List.getElem?_cons_succ] at t10
  have C0 := Lib.hid c0
  have C1 := Lib.hid c1
  have C2 := Lib.hid c2
  have lK := lt_of_block c0
  clear hg hT6 hT5 lS lS1 lR hsz HB1 HB2 B0 B1 B2 c0 c1 c2 k0'
  go_wp2_with fail
  go_loopw [44] (fun v wr => ∃ k : Nat, v = .int .i64 k ∧ k ≤ L1.length ∧ Below w6.heap.size w6 wr) (fun v _ => L1.length - (intOf v).toNat)
  case atStart => exact ⟨0, rfl, Nat.zero_le _, Below.refl _ _⟩
  case round =>
    obtain ⟨k, rfl, hk, hb⟩ := hrel
    by_cases hkl : k < L1.length
    rotate_left
    · have hke : k = L1.length := by omega
      subst hke
      have hd : decide ((L1.length : Int) < (L1.length : Int)) = false := by simp
      have hTr := HT6.out.below hb
      have HRC := Lib.hid ((hb.block _ (lt_of_block C2.out)).trans C2.out)
      have HW5 := Lib.hid (And.intro (HC.out.trans (Chg.of_below hb)) hTr)
      have f0 := cell_of HRC.out 0
      have f1 := cell_of HRC.out 1
      have f2 := cell_of HRC.out 2
      have f3 := cell_of HRC.out 3
      simp only [List.getElem?_toArray, List.getElem?_cons_zero, List.getElem?_cons_succ] at f0 f1 f2 f3
      have rf : ∀ j, wr.frozen? ⟨w.heap.size + 1 + 1, j, none⟩ = false := fun j => by simp [World.frozen?, HRC.out]
      have rf0 := rf 0
      have rf1 := rf 1
      have rf2 := rf 2
      have rf3 := rf 3
      have lR := lt_of_block HRC.out
      clear rf hTr hb
      go_wp2_with fail
      generalize hW : World.setCell _ _ _ = W12
      obtain ⟨hr3, hb12⟩ := set4 HRC.out (Nat.le_refl _) hW
      have hoth : ∀ k, k ≠ w.heap.size + 1 + 1 → W12.heap[k]? = wr.heap[k]? := fun k hk => by rw [← hW, heap_set_other hk, heap_set_other hk, heap_set_other hk, heap_set_other hk]
      have y0 := cell_of hr3 0
      have y1 := cell_of hr3 1
      have y2 := cell_of hr3 2
      have y3 := cell_of hr3 3
      simp only [List.getElem?_toArray, List.getElem?_cons_zero, List.getElem?_cons_succ] at y0 y1 y2 y3
      refine bodyPost_ret (v := .tuple #[.agg #[.bool false, .int .u64 0, .int .u64 0, .int .i64 0], .bool false, .int .i64 0]) (by simp [results, Tryz.results14, go_sem, y0, y1, y2, y3]) rfl ⟨rfl, HW5.out.1.trans (Chg.mk hb12.os hb12.tape hb12.output hb12.size fun k _ hn => hoth k (fun e => hn (.inr (by omega)))), HW5.out.2.keep (fun k hk _ => hoth k (fun e => by have := hF k hk; omega)) fun _ h => h⟩
    have hTr := HT6.out.below hb
    obtain ⟨g5, off, rfl, hgB, ⟨x0, x1, x2, x3, x4, x5, x6, x7, x8, x9, x10⟩⟩ := hTr.ents k hkl
    have hd : decide ((k : Int) < (L1.length : Int)) = true := by simp; omega
    have HB := Lib.hid hb
    have m1 := tr_cell hTr.blk 1
    have lTr := tr_lt hTr.blk
    simp only [List.getElem?_toArray, List.getElem?_cons_zero, List.getElem?_cons_succ] at m1
    have r0 := (hb.cell (p := ⟨w.heap.size, 0, none⟩) lK).trans k0
    have lKr := Nat.lt_of_lt_of_le lK hb.size
    have hmem := getD_mem hkl
    have hspots := spots_at (hTr.sent _ hmem)
    have hslk := HSL.out _ hmem
    have hC1r := (hb.block _ (lt_of_block C1.out)).trans C1.out
    have hC0r := (hb.block _ (lt_of_block C0.out)).trans C0.out
    have hany := fun W (hbW : Below wr.heap.size wr W) => anyLet_any (L1.getD k noEnt).sA (L1.getD k noEnt).scap (L1.getD k noEnt).sent T n at_ next _ w.heap.size (w.heap.size + 1) s W (hspots.below hbW) (Nat.le_trans hslk (by omega)) (tr_below hTr.blk hbW) ((spotAt_of hC1r).below hbW) ((oneAt_of hC0r).below hbW)
    have HC1r := Lib.hid hC1r
    have HC2 := Lib.hid ((hb.block _ (lt_of_block C2.out)).trans C2.out)
    have hcode : letEnt n s p (L1.getD k noEnt) = ((L1.getD k noEnt).port == p && (n.lets == 1 || (L1.getD k noEnt).sent.any (letsIn n s))) := rfl
    have h0 := HNO.out k hkl
    have HFIN := Lib.hid (And.intro (HC.out.trans (Chg.of_below hb)) hTr)
    clear hb hTr hspots hC1r hC0r hslk hmem
    have HI : Hid (L1.getD k noEnt = L1.getD k noEnt) := Lib.hid rfl
    clear HI
    have hlen := OK1.out.len
    have hlg : ∀ W, Below wr.heap.size wr W → (Chg F w W ∧ TrAt W F T n at_ next (some ⟨g5, off, none⟩) cap L1) ∧ W.heap[w.heap.size + 1 + 1]? = some (.cells #[.bool false, .int .u64 0, .int .u64 0, .int .i64 0] 42 (0, 0)) :=
      fun W hbW => ⟨⟨HFIN.out.1.trans (Chg.of_below hbW), HFIN.out.2.below hbW⟩, (hbW.block _ (lt_of_block HC2.out)).trans HC2.out⟩
    have HLG := Lib.hid hlg
    clear hlg
    rw [hcode] at h0
    clear hcode
    generalize L1.getD k noEnt = x at *
    cases hpq : x.port == p
    · have hpn : (x.port != p) = true := by simpa [bne] using hpq
      clear h0 hany
      go_wp2_with fail
      go_roundw
      case rel => exact ⟨k + 1, by go_num, by omega, HB.out.alloc HB.out.size _⟩
      case measure => simp [intOf]; omega
    · rw [hpq] at h0
      have hpn : (x.port != p) = false := by simpa [bne] using hpq
      cases hl : n.lets == 1
      · cases hA : x.sent.any (letsIn n s)
        · rw [hA] at hany
          clear h0
          go_wp2_with fail
          refine (hany _ ((Below.refl _ _).alloc (Nat.le_refl _) _)).mono ?_
          rintro e w1 ⟨rfl, hb1⟩
          have HB1 := Lib.hid (below_box HB.out HB.out.size hb1)
          clear hany hb1
          go_wp2_with fail
          go_roundw
          case rel => exact ⟨k + 1, by go_num, by omega, HB1.out⟩
          case measure => simp [intOf]; omega
        · rw [hl, hA] at h0; cases h0
      · rw [hl] at h0; cases h0
end Go.Proofs.YtphjgjcbolmdiaaGreatDoor

namespace Go.Proofs.YtphjgjcbolmdiaaGreatDoor
open Go.RowKit Go.Hw

/-- An entry without the place of its row. -/
def coreE (e : Ent) : Ent := { e with sA := none, scap := 0 }
def coreL (L : List Ent) : List Ent := L.map coreE
theorem coreL_length (L : List Ent) : (coreL L).length = L.length := by simp [coreL]
theorem coreL_filter (p : Ent → Bool) (hp : ∀ e, p (coreE e) = p e) (L : List Ent) : (coreL L).filter p = coreL (L.filter p) := by
  unfold coreL
  rw [List.filter_map]
  congr 2
  funext e
  exact hp e
theorem coreL_any (p : Ent → Bool) (hp : ∀ e, p (coreE e) = p e) (L : List Ent) : (coreL L).any p = L.any p := by
  unfold coreL
  rw [List.any_map]
  congr 1
  funext e
  exact hp e
theorem coreL_idx (p : Ent → Bool) (hp : ∀ e, p (coreE e) = p e) (L : List Ent) : idxP p (coreL L) = idxP p L := by
  unfold coreL idxP
  rw [List.findIdx?_map]
  have : p ∘ coreE = p := funext hp
  rw [this]
theorem coreL_find (p : Ent → Bool) (hp : ∀ e, p (coreE e) = p e) (L : List Ent) : (coreL L).find? p = (L.find? p).map coreE := by
  unfold coreL
  rw [List.find?_map]
  have : p ∘ coreE = p := funext hp
  rw [this]
theorem coreL_getD (L : List Ent) (i : Nat) : (coreL L).getD i noEnt = coreE (L.getD i noEnt) := by
  unfold coreL
  rw [List.getD_eq_getElem?_getD, List.getElem?_map, List.getD_eq_getElem?_getD]
  cases L[i]? <;> rfl
theorem coreL_set (L : List Ent) (i : Nat) (e : Ent) : coreL (L.set i e) = (coreL L).set i (coreE e) := by simp [coreL, List.map_set]

/-- The port that free hands out. -/
def freeP (n : NatC) (L : List Ent) (next : Int) : Int :=
  match (List.range n.ports.toNat).find? (fun j => !L.any (fun e => e.port == iterP n j next)) with
  | some j => iterP n j next
  | none => next
theorem freeP_eq {n : NatC} {L : List Ent} {next port : Int} (hn : Fine n) (hin : InRange n next) (hl : (L.length : Int) < n.ports) (h : IsFree n L next port) : port = freeP n L next := by
  obtain ⟨j, rfl, hb, hno⟩ := h
  have hj : j < n.ports.toNat := by
    obtain ⟨K, hK⟩ := free_there hn hin hl
    refine Nat.lt_of_not_le fun hle => ?_
    -- all ports are taken
    have hall : ∀ k, k < n.ports.toNat → L.any (fun e => e.port == iterP n k next) = true := fun k hk => hb k (by omega)
    have h1 := nodup_le (xs := (List.range (L.length + 1)).map fun k => iterP n k next) (ys := L.map (·.port)) (by
      unfold List.Nodup
      rw [List.pairwise_map]
      refine List.Pairwise.imp_of_mem ?_ (List.pairwise_lt_range (n := L.length + 1))
      intro a b ha hb' hab
      rw [List.mem_range] at ha hb'
      rw [iter_at hn hin a (by omega), iter_at hn hin b (by omega)]
      split <;> split <;> omega) (by
      intro x hx
      obtain ⟨k, hk, rfl⟩ := List.mem_map.1 hx
      rw [List.mem_range] at hk
      obtain ⟨e, he, hp⟩ := List.any_eq_true.1 (hall k (by omega))
      exact List.mem_map.2 ⟨e, he, by simpa using hp⟩)
    simp at h1
    omega
  unfold freeP
  have hf : (List.range n.ports.toNat).find? (fun j => !L.any (fun e => e.port == iterP n j next)) = some j := by
    rw [List.find?_range_eq_some]
    refine ⟨by rw [hno]; rfl, by simpa using hj, fun k hk => by rw [hb k hk]; rfl⟩
  rw [hf]

/-- What a packet that goes out makes of a translator: the port, the next port, the entries; none: there is no room. -/
def outP (n : NatC) (at_ : Int) (s d : Spot) (next : Int) (P : List Ent) : Option (Int × Int × List Ent) :=
  if 0 ≤ idxP (isEntry n at_ s (seenS d n.maps)) (P.filter (lasts n at_)) then
    some (((P.filter (lasts n at_)).getD (idxP (isEntry n at_ s (seenS d n.maps)) (P.filter (lasts n at_))).toNat noEnt).port, next,
      (P.filter (lasts n at_)).set (idxP (isEntry n at_ s (seenS d n.maps)) (P.filter (lasts n at_))).toNat
        { (P.filter (lasts n at_)).getD (idxP (isEntry n at_ s (seenS d n.maps)) (P.filter (lasts n at_))).toNat noEnt with last := at_, sent := sentOf ((P.filter (lasts n at_)).getD (idxP (isEntry n at_ s (seenS d n.maps)) (P.filter (lasts n at_))).toNat noEnt) d })
  else if ((P.filter (lasts n at_)).length : Int) < n.ports then
    some (freeP n (P.filter (lasts n at_)) next, afterP n (freeP n (P.filter (lasts n at_)) next), P.filter (lasts n at_) ++ [⟨s, freeP n (P.filter (lasts n at_)) next, seenS d n.maps, at_, none, 0, [d]⟩])
  else none
/-- What a packet that comes in makes of a translator. -/
def inP (n : NatC) (at_ : Int) (s : Spot) (p : Int) (P : List Ent) : Bool × List Ent := ((P.filter (lasts n at_)).any (letEnt n s p), P.filter (lasts n at_))

theorem idx_only {n : NatC} {at_ : Int} {s d : Spot} {L : List Ent} (h : idxP (isEntry n at_ s d) (L.filter (lasts n at_)) = -1) : idxP (isEntry n at_ s d) L = -1 := by
  rcases idxP_any (isEntry n at_ s d) L with ⟨h1, _⟩ | ⟨_, h2⟩
  · obtain ⟨e, he, h1⟩ := List.any_eq_true.1 h1
    have hl : lasts n at_ e = true := by
      unfold isEntry at h1
      simp only [Bool.and_eq_true] at h1
      exact h1.2.2
    rcases idxP_any (isEntry n at_ s d) (L.filter (lasts n at_)) with ⟨_, h3⟩ | ⟨h3, _⟩
    · omega
    · rw [List.any_eq_true.2 ⟨e, List.mem_filter.2 ⟨he, hl⟩, h1⟩] at h3
      cases h3
  · exact h2
theorem idx_there {n : NatC} {at_ : Int} {s d : Spot} {L : List Ent} (h : 0 ≤ idxP (isEntry n at_ s d) (L.filter (lasts n at_))) : 0 ≤ idxP (isEntry n at_ s d) L := by
  obtain ⟨i, hi, _, hp⟩ := idxP_found noEnt h
  rcases idxP_any (isEntry n at_ s d) L with ⟨_, h2⟩ | ⟨h2, _⟩
  · exact h2
  · have hm : (L.filter (lasts n at_)).getD i noEnt ∈ L := (List.mem_filter.1 (getD_mem hi)).1
    rw [List.any_eq_true.2 ⟨_, hm, hp⟩] at h2
    cases h2
/-- The least that holds of a translator's entries at all times. -/
structure Good (n : NatC) (now next : Int) (P : List Ent) (k : Nat) : Prop where
  fine : Fine n
  nxt : InRange n next
  rng : ∀ e ∈ P, InRange n e.port
  last : ∀ e ∈ P, 0 ≤ e.last ∧ e.last ≤ 1000
  len : P.length ≤ k
  sent : ∀ e ∈ P, e.sent.length ≤ k
theorem Good.core {n : NatC} {now next : Int} {L : List Ent} {k : Nat} (h : Good n now next (coreL L) k) : Good n now next L k where
  fine := h.fine
  nxt := h.nxt
  rng := fun e he => h.rng (coreE e) (List.mem_map.2 ⟨e, he, rfl⟩)
  last := fun e he => h.last (coreE e) (List.mem_map.2 ⟨e, he, rfl⟩)
  len := by have := h.len; rw [coreL_length] at this; exact this
  sent := fun e he => h.sent (coreE e) (List.mem_map.2 ⟨e, he, rfl⟩)
theorem Good.oks {n : NatC} {now next at_ : Int} {L : List Ent} {k : Nat} (h : Good n now next L k) (h0 : 0 ≤ at_) (h1 : at_ ≤ 1000) (h2 : now ≤ at_) (hk : k ≤ 1000) : Oks n now at_ L :=
  { fine := h.fine, t0 := h0, t1 := h1, t2 := h2, le := h.last, len := by have := h.len; omega }
end Go.Proofs.YtphjgjcbolmdiaaGreatDoor

namespace Go.Proofs.YtphjgjcbolmdiaaGreatDoor
open Go.RowKit Go.Hw

/-- What Out leaves behind. -/
def OutG (F : Nat → Prop) (w : World) (T : Nat) (n : NatC) (at_ : Int) (s d : Spot) (next : Int) (P : List Ent) (e : Ending) (w' : World) : Prop :=
  (outP n at_ s d next P = none ∧ e = .returned (.tuple #[.agg #[.bool false, .int .u64 0, .int .u64 0, .int .i64 0], .int .i64 12]) ∧ Below w.heap.size w w') ∨
  ∃ port next' P', outP n at_ s d next P = some (port, next', P') ∧ e = .returned (.tuple #[.agg #[.bool n.six, .int .u64 n.hi, .int .u64 n.lo, .int .i64 port], .int .i64 0]) ∧ Chg F w w' ∧
    ∃ A cap L, TrAt w' (fun j => Plus F w j ∧ j < w'.heap.size) T n at_ next' A cap L ∧ coreL L = P'
theorem core_last (n : NatC) (at_ : Int) (e : Ent) : lasts n at_ (coreE e) = lasts n at_ e := rfl
theorem core_entry (n : NatC) (at_ : Int) (s d : Spot) (e : Ent) : isEntry n at_ s d (coreE e) = isEntry n at_ s d e := rfl
theorem core_let (n : NatC) (s : Spot) (p : Int) (e : Ent) : letEnt n s p (coreE e) = letEnt n s p e := rfl
theorem free_core (n : NatC) (L : List Ent) (next : Int) : freeP n (coreL L) next = freeP n L next := by
  unfold freeP
  have : (fun j => !(coreL L).any fun e => e.port == iterP n j next) = fun j => !L.any fun e => e.port == iterP n j next := by
    funext j
    rw [coreL_any _ (fun _ => rfl)]
  rw [this]

theorem out_gen (T : Nat) (n : NatC) (now next : Int) (F : Nat → Prop) (A : Option Addr) (cap : Nat) (L P : List Ent) (k : Nat) (at_ : Int) (s d : Spot) (w : World) (h : TrAt w F T n now next A cap L) (hP : coreL L = P) (hg : Good n now next P k)
    (h0 : 0 ≤ at_) (h1 : at_ ≤ 1000) (h2 : now ≤ at_) (hk : k ≤ 1000) (hF : ∀ j, F j → j < w.heap.size) (hs0 : 0 ≤ s.hi) (hd0 : 0 ≤ d.hi) (hs : spotCode s = 0) (hd : spotCode d = 0) :
    Calls Tryz.prog 13 #[.pointer (some ⟨T, 0, none⟩), .int .i64 at_, .agg #[.bool s.six, .int .u64 s.hi, .int .u64 s.lo, .int .i64 s.port], .agg #[.bool d.six, .int .u64 d.hi, .int .u64 d.lo, .int .i64 d.port]] w
      (OutG F w T n at_ s d next P) := by
  subst hP
  have gl := hg.core
  have ok := gl.oks h0 h1 h2 hk
  obtain ⟨L1, hL1⟩ : ∃ L1, L.filter (lasts n at_) = L1 := ⟨_, rfl⟩
  have hc : (coreL L).filter (lasts n at_) = coreL L1 := by rw [coreL_filter _ (core_last n at_), hL1]
  have hix : idxP (isEntry n at_ s (seenS d n.maps)) (coreL L1) = idxP (isEntry n at_ s (seenS d n.maps)) L1 := coreL_idx _ (core_entry n at_ s _) L1
  have hsub : ∀ e ∈ L1, e ∈ L := fun e he => by rw [← hL1] at he; exact (List.mem_filter.1 he).1
  have hlen : L1.length ≤ k := by have := List.length_filter_le (lasts n at_) L; rw [hL1] at this; have := gl.len; omega
  rcases idxP_any (isEntry n at_ s (seenS d n.maps)) L1 with ⟨_, hi⟩ | ⟨_, hi⟩
  · obtain ⟨i, hi1, hi2, _⟩ := idxP_found noEnt hi
    obtain ⟨i0, _, hi4, _⟩ := idxP_found noEnt (idx_there (L := L) (by rw [hL1]; exact hi))
    refine (out_old2 T n now next F A cap L at_ s d w h ok L1 hL1 hF hs0 hd0 hs hd i0 hi4 i hi1 hi2 (by have := gl.sent _ (hsub _ (getD_mem hi1)); omega)).mono ?_
    rintro e w' ⟨rfl, hch, sA, scap, ht⟩
    refine .inr ⟨(L1.getD i noEnt).port, next, coreL (L1.set i { L1.getD i noEnt with last := at_, sA := sA, scap := scap, sent := sentOf (L1.getD i noEnt) d }), ?_, rfl, hch, _, _, _, ht.lim, rfl⟩
    unfold outP
    rw [hc, hix, hi2, if_pos (by omega), Int.toNat_natCast, coreL_getD, coreL_set]
    rfl
  · have hi0 : idxP (isEntry n at_ s (seenS d n.maps)) L = -1 := idx_only (by rw [hL1]; exact hi)
    by_cases hf : n.ports ≤ (L1.length : Int)
    · refine (out_full2 T n now next F A cap L at_ s d w h ok L1 hL1 hs0 hd0 hs hd hi0 hf).mono ?_
      rintro e w' ⟨rfl, hb⟩
      refine .inl ⟨?_, rfl, hb⟩
      unfold outP
      rw [hc, hix, hi, if_neg (by omega), coreL_length, if_neg (by omega)]
    · obtain ⟨K, hK⟩ := free_there (L := L1) gl.fine gl.nxt (by omega)
      refine (out_new2 T n now next F A cap L at_ s d w h ok L1 hL1 hF hs0 hd0 hs hd hi0 hi (by omega) (by omega) gl.nxt K hK).mono ?_
      rintro e w' ⟨port, rfl, hfr, hch, A', cap', sA, scap, ht⟩
      have hp := freeP_eq gl.fine gl.nxt (by omega) hfr
      refine .inr ⟨port, afterP n port, coreL (L1 ++ [⟨s, port, seenS d n.maps, at_, sA, scap, [d]⟩]), ?_, rfl, hch, _, _, _, ht.lim, rfl⟩
      unfold outP
      rw [hc, hix, hi, if_neg (by omega), coreL_length, if_pos (by omega), free_core, ← hp]
      simp [coreL, coreE]

/-- What In leaves behind. -/
def InG (F : Nat → Prop) (w : World) (T : Nat) (n : NatC) (at_ : Int) (s : Spot) (p next : Int) (P : List Ent) (e : Ending) (w' : World) : Prop :=
  Chg F w w' ∧ (∃ A cap L, TrAt w' F T n at_ next A cap L ∧ coreL L = (inP n at_ s p P).2) ∧
    ((inP n at_ s p P).1 = true ∧ (∃ q : Spot, e = .returned (.tuple #[.agg #[.bool q.six, .int .u64 q.hi, .int .u64 q.lo, .int .i64 q.port], .bool true, .int .i64 0])) ∨
      (inP n at_ s p P).1 = false ∧ e = .returned (.tuple #[.agg #[.bool false, .int .u64 0, .int .u64 0, .int .i64 0], .bool false, .int .i64 0]))
theorem in_gen (T : Nat) (n : NatC) (now next : Int) (F : Nat → Prop) (A : Option Addr) (cap : Nat) (L P : List Ent) (k : Nat) (at_ : Int) (s : Spot) (p : Int) (w : World) (h : TrAt w F T n now next A cap L) (hP : coreL L = P) (hg : Good n now next P k)
    (h0 : 0 ≤ at_) (h1 : at_ ≤ 1000) (h2 : now ≤ at_) (hk : k ≤ 1000) (hF : ∀ j, F j → j < w.heap.size) (hs0 : 0 ≤ s.hi) (hs : spotCode s = 0) (hp : portCode p = 0) :
    Calls Tryz.prog 14 #[.pointer (some ⟨T, 0, none⟩), .int .i64 at_, .agg #[.bool s.six, .int .u64 s.hi, .int .u64 s.lo, .int .i64 s.port], .int .i64 p] w
      (InG F w T n at_ s p next P) := by
  subst hP
  have gl := hg.core
  have ok := gl.oks h0 h1 h2 hk
  obtain ⟨L1, hL1⟩ : ∃ L1, L.filter (lasts n at_) = L1 := ⟨_, rfl⟩
  have hc : (coreL L).filter (lasts n at_) = coreL L1 := by rw [coreL_filter _ (core_last n at_), hL1]
  have hsub : ∀ e ∈ L1, e ∈ L := fun e he => by rw [← hL1] at he; exact (List.mem_filter.1 he).1
  have hsl : ∀ e ∈ L1, e.sent.length ≤ 100000 := fun e he => by have := gl.sent e (hsub e he); omega
  have h21 : (inP n at_ s p (coreL L)).1 = L1.any (letEnt n s p) := by
    unfold inP
    rw [hc]
    exact coreL_any _ (core_let n s p) L1
  have h22 : (inP n at_ s p (coreL L)).2 = coreL L1 := hc
  rcases idxP_any (letEnt n s p) L1 with ⟨ha, hi⟩ | ⟨ha, hi⟩
  · obtain ⟨i, hi1, hi2, _⟩ := idxP_found noEnt hi
    obtain ⟨_, hno, hyes⟩ := idxP_spec (d := noEnt) hi2
    refine (in_any2 T n now next F A cap L at_ s p w h ok L1 hL1 hF hsl hs0 hs hp i hi1 hno hyes).mono ?_
    rintro e w' ⟨rfl, hch, ht⟩
    exact ⟨hch, ⟨_, _, _, ht, h22.symm⟩, .inl ⟨by rw [h21]; exact ha, _, rfl⟩⟩
  · have hno : ∀ j, j < L1.length → letEnt n s p (L1.getD j noEnt) = false := fun j hj => by
      cases hq : letEnt n s p (L1.getD j noEnt) with
      | false => rfl
      | true => rw [List.any_eq_true.2 ⟨_, getD_mem hj, hq⟩] at ha; cases ha
    refine (in_none2 T n now next F A cap L at_ s p w h ok L1 hL1 hF hsl hs0 hs hp hno).mono ?_
    rintro e w' ⟨rfl, hch, ht⟩
    exact ⟨hch, ⟨_, _, _, ht, h22.symm⟩, .inr ⟨by rw [h21]; exact ha, rfl⟩⟩
end Go.Proofs.YtphjgjcbolmdiaaGreatDoor

namespace Go.Proofs.YtphjgjcbolmdiaaGreatDoor
open Go.RowKit Go.Hw

def innerS : Spot := ⟨false, 0, 167772161, 1000⟩
def serverS : Spot := ⟨false, 0, 16843009, 3478⟩
structure PP where
  n : NatC
  next : Int
  P : List Ent
  K : List Spot
  heard : Int
def outer (n : NatC) (port : Int) : Spot := ⟨n.six, n.hi, n.lo, port⟩
def hearP (at_ : Int) (s : Spot) (p : Int) (o : PP) : PP :=
  if (inP o.n at_ s p o.P).1 then { o with P := (inP o.n at_ s p o.P).2, heard := if o.heard = 0 then at_ else o.heard, K := if o.K.any (fun k => s.beq k) then o.K else o.K ++ [s] }
  else { o with P := (inP o.n at_ s p o.P).2 }
def stepP (at_ : Int) (x : PP × PP) (d : Spot) : PP × PP :=
  match outP x.1.n at_ innerS d x.1.next x.1.P with
  | none => x
  | some (port, next', P') => ({ x.1 with next := next', P := P' }, hearP at_ (outer x.1.n port) d.port x.2)
def turnP (at_ : Int) (x : PP × PP) : PP × PP := x.1.K.foldl (stepP at_) x
def roundP (at_ : Int) (x : PP × PP) : PP × PP := ((turnP at_ ((turnP at_ x).2, (turnP at_ x).1)).2, (turnP at_ ((turnP at_ x).2, (turnP at_ x).1)).1)
/-- A node whose translator has told the server. -/
def freshP (n : NatC) : Int × Int × List Ent := (outP n 0 innerS serverS n.first []).getD (0, 0, [])
def startP (a b : NatC) : PP × PP :=
  (⟨a, (freshP a).2.1, (freshP a).2.2, [outer b (freshP b).1], 0⟩, ⟨b, (freshP b).2.1, (freshP b).2.2, [outer a (freshP a).1], 0⟩)
def canP (a b : NatC) : Nat → PP × PP
  | 0 => startP a b
  | r + 1 => roundP ((r : Int) + 1) (canP a b r)

/-! ### what is heard stays -/
def Hears (at_ h h' : Int) : Prop := (h ≠ 0 → h' = h) ∧ (h = 0 → h' = 0 ∨ h' = at_)
theorem Hears.refl (at_ h : Int) : Hears at_ h h := ⟨fun _ => rfl, fun e => .inl e⟩
theorem Hears.trans {at_ a b c : Int} (h : Hears at_ a b) (k : Hears at_ b c) (h0 : 1 ≤ at_) : Hears at_ a c := by
  unfold Hears at *
  refine ⟨fun ha => ?_, fun ha => ?_⟩
  · have e1 := h.1 ha
    have e2 := k.1 (by omega)
    omega
  · rcases h.2 ha with e | e
    · rcases k.2 e with e2 | e2 <;> omega
    · have := k.1 (by omega)
      omega
theorem hear_hears (at_ : Int) (s : Spot) (p : Int) (o : PP) : Hears at_ o.heard (hearP at_ s p o).heard := by
  unfold hearP Hears
  split
  · refine ⟨fun h => by simp [h], fun h => by simp [h]⟩
  · exact Hears.refl _ _
theorem step_hears (at_ : Int) (x : PP × PP) (d : Spot) : (stepP at_ x d).1.heard = x.1.heard ∧ Hears at_ x.2.heard (stepP at_ x d).2.heard := by
  unfold stepP
  split
  · exact ⟨rfl, Hears.refl _ _⟩
  · exact ⟨rfl, hear_hears _ _ _ _⟩
theorem fold_hears (at_ : Int) (h0 : 1 ≤ at_) (K : List Spot) (x : PP × PP) : (K.foldl (stepP at_) x).1.heard = x.1.heard ∧ Hears at_ x.2.heard (K.foldl (stepP at_) x).2.heard := by
  induction K generalizing x with
  | nil => exact ⟨rfl, Hears.refl _ _⟩
  | cons d K ih =>
    have h1 := step_hears at_ x d
    have h2 := ih (stepP at_ x d)
    exact ⟨h2.1.trans h1.1, h1.2.trans h2.2 h0⟩
theorem round_hears (at_ : Int) (h0 : 1 ≤ at_) (x : PP × PP) : Hears at_ x.1.heard (roundP at_ x).1.heard ∧ Hears at_ x.2.heard (roundP at_ x).2.heard := by
  have h1 := fold_hears at_ h0 x.1.K x
  have h2 := fold_hears at_ h0 ((turnP at_ x).2).K ((turnP at_ x).2, (turnP at_ x).1)
  unfold roundP
  refine ⟨?_, ?_⟩
  · have := h2.2
    unfold turnP at this ⊢
    rw [h1.1] at this
    exact this
  · have := h2.1
    unfold turnP at this ⊢
    rw [this]
    exact h1.2
/-- More rounds change nothing of what came in the first two. -/
def Later (h h' : Int) : Prop := (h ≠ 0 → h' = h) ∧ (h = 0 → h' = 0 ∨ 3 ≤ h')
theorem later_of {h h3 h4 h5 : Int} (a : Hears 3 h h3) (b : Hears 4 h3 h4) (c : Hears 5 h4 h5) : Later h h5 := by
  unfold Hears Later at *
  refine ⟨fun h0 => ?_, fun h0 => ?_⟩
  · have := a.1 h0
    have := b.1 (by omega)
    have := c.1 (by omega)
    omega
  · rcases a.2 h0 with e | e
    · rcases b.2 e with e2 | e2
      · rcases c.2 e2 with e3 | e3 <;> omega
      · have := c.1 (by omega); omega
    · have := b.1 (by omega)
      have := c.1 (by omega)
      omega
theorem canP_succ (a b : NatC) (r : Nat) : canP a b (r + 1) = roundP ((r : Int) + 1) (canP a b r) := by rw [canP]
theorem can_later (a b : NatC) : Later (canP a b 2).1.heard (canP a b 5).1.heard ∧ Later (canP a b 2).2.heard (canP a b 5).2.heard := by
  have h3 := round_hears ((2 : Nat) + 1) (by omega) (canP a b 2)
  rw [← canP_succ] at h3
  have h4 := round_hears ((3 : Nat) + 1) (by omega) (canP a b 3)
  rw [← canP_succ] at h4
  have h5 := round_hears ((4 : Nat) + 1) (by omega) (canP a b 4)
  rw [← canP_succ] at h5
  exact ⟨later_of h3.1 h4.1 h5.1, later_of h3.2 h4.2 h5.2⟩
theorem heard_bound (a b : NatC) : ∀ r : Nat, (0 ≤ (canP a b r).1.heard ∧ (canP a b r).1.heard ≤ r) ∧ (0 ≤ (canP a b r).2.heard ∧ (canP a b r).2.heard ≤ r)
  | 0 => by simp [canP, startP]
  | r + 1 => by
    have ih := heard_bound a b r
    have h := round_hears ((r : Int) + 1) (by omega) (canP a b r)
    rw [← canP_succ] at h
    generalize (canP a b (r + 1)).1.heard = u' at *
    generalize (canP a b (r + 1)).2.heard = v' at *
    unfold Hears at h
    generalize (canP a b r).1.heard = u at *
    generalize (canP a b r).2.heard = v at *
    by_cases hu : u = 0 <;> by_cases hv : v = 0 <;> simp [hu, hv] at h <;> omega
end Go.Proofs.YtphjgjcbolmdiaaGreatDoor

namespace Go.Proofs.YtphjgjcbolmdiaaGreatDoor
open Go.RowKit Go.Hw

theorem getD_filter_mem {p : Ent → Bool} {P : List Ent} {i : Nat} (hi : i < (P.filter p).length) : (P.filter p).getD i noEnt ∈ P := (List.mem_filter.1 (getD_mem hi)).1
theorem out_good {n : NatC} {now next at_ port next' : Int} {s d : Spot} {P P' : List Ent} {k : Nat} (h : Good n now next P k) (h0 : 0 ≤ at_) (h1 : at_ ≤ 1000) (ho : outP n at_ s d next P = some (port, next', P')) : Good n at_ next' P' (k + 1) ∧ InRange n port := by
  have hfl : (P.filter (lasts n at_)).length ≤ P.length := List.length_filter_le _ _
  have hsub : ∀ e ∈ P.filter (lasts n at_), e ∈ P := fun e he => (List.mem_filter.1 he).1
  have hlen := h.len
  unfold outP at ho
  generalize P.filter (lasts n at_) = P1 at *
  split at ho
  · rename_i hi
    obtain ⟨i, hi1, hi2, _⟩ := idxP_found noEnt hi
    rw [hi2, Int.toNat_natCast] at ho
    simp only [Option.some.injEq, Prod.mk.injEq] at ho
    obtain ⟨rfl, rfl, rfl⟩ := ho
    have hm := getD_mem hi1
    refine ⟨⟨h.fine, h.nxt, fun e he => ?_, fun e he => ?_, by rw [List.length_set]; omega, fun e he => ?_⟩, h.rng _ (hsub _ hm)⟩
    · rcases mem_set_or he with rfl | he
      · exact h.rng (P1.getD i noEnt) (hsub _ hm)
      · exact h.rng _ (hsub _ he)
    · rcases mem_set_or he with rfl | he
      · exact ⟨h0, h1⟩
      · exact h.last _ (hsub _ he)
    · rcases mem_set_or he with rfl | he
      · have := sentOf_le (P1.getD i noEnt) d
        have := h.sent _ (hsub _ hm)
        show (sentOf (P1.getD i noEnt) d).length ≤ k + 1
        omega
      · have := h.sent _ (hsub _ he); omega
  · split at ho
    · simp only [Option.some.injEq, Prod.mk.injEq] at ho
      obtain ⟨rfl, rfl, rfl⟩ := ho
      have hin : InRange n (freeP n P1 next) := by
        unfold freeP
        split
        · exact iter_in h.fine h.nxt _
        · exact h.nxt
      refine ⟨⟨h.fine, after_in h.fine hin, fun e he => ?_, fun e he => ?_, by simp; omega, fun e he => ?_⟩, hin⟩
      · rcases List.mem_append.1 he with he | he
        · exact h.rng _ (hsub _ he)
        · simp at he; subst he; exact hin
      · rcases List.mem_append.1 he with he | he
        · exact h.last _ (hsub _ he)
        · simp at he; subst he; exact ⟨h0, h1⟩
      · rcases List.mem_append.1 he with he | he
        · have := h.sent _ (hsub _ he); omega
        · simp at he; subst he; simp
    · cases ho
theorem Good.more {n : NatC} {now next : Int} {P : List Ent} {k : Nat} (h : Good n now next P k) (at_ : Int) : Good n at_ next P (k + 1) :=
  ⟨h.fine, h.nxt, h.rng, h.last, by have := h.len; omega, fun e he => by have := h.sent e he; omega⟩
theorem in_good {n : NatC} {now next at_ : Int} {s : Spot} {p : Int} {P : List Ent} {k : Nat} (h : Good n now next P k) : Good n at_ next (inP n at_ s p P).2 (k + 1) := by
  have hfl : (P.filter (lasts n at_)).length ≤ P.length := List.length_filter_le _ _
  have hsub : ∀ e ∈ P.filter (lasts n at_), e ∈ P := fun e he => (List.mem_filter.1 he).1
  exact ⟨h.fine, h.nxt, fun e he => h.rng e (hsub e he), fun e he => h.last e (hsub e he), by have := h.len; show (P.filter (lasts n at_)).length ≤ k + 1; omega, fun e he => by have := h.sent e (hsub e he); omega⟩
structure GoodP (p : PP) (k c : Nat) : Prop where
  good : Good p.n 0 p.next p.P k
  code : natCode p.n = 0
  hi : 0 ≤ p.n.hi
  ks : ∀ s ∈ p.K, 0 ≤ s.hi ∧ spotCode s = 0
  len : p.K.length ≤ c
theorem nat_fine {n : NatC} (h : natCode n = 0) : Fine n ∧ addrCode n.six n.hi n.lo = 0 := by
  unfold natCode at h
  unfold Fine
  split at h
  · omega
  split at h
  · omega
  split at h
  · omega
  split at h
  · omega
  split at h
  · omega
  rename_i h1 h2 h3 h4 h5
  simp only [Decidable.not_not] at h1 h2 h3 h4 h5
  exact ⟨⟨h1.1, h1.2, h2.1, h2.2, h3.1, h3.2, h4.1, h4.2, h5.1, h5.2⟩, h⟩
theorem outer_code {n : NatC} {port : Int} (h : natCode n = 0) (hp : InRange n port) : spotCode (outer n port) = 0 := by
  obtain ⟨h1, h2⟩ := nat_fine h
  unfold spotCode outer
  rw [if_neg (by simpa using h2)]
  exact port_code h1 hp
theorem hear_good {at_ : Int} {s : Spot} {p : Int} {o : PP} {k c : Nat} (h : GoodP o k c) (hs0 : 0 ≤ s.hi) (hs : spotCode s = 0) : GoodP (hearP at_ s p o) (k + 1) (c + 1) := by
  have hg := in_good (s := s) (p := p) (at_ := at_) h.good
  unfold hearP
  split
  · refine ⟨⟨hg.fine, hg.nxt, hg.rng, hg.last, hg.len, hg.sent⟩, h.code, h.hi, fun x hx => ?_, ?_⟩
    · simp only at hx
      split at hx
      · exact h.ks x hx
      · rcases List.mem_append.1 hx with hx | hx
        · exact h.ks x hx
        · simp at hx; subst hx; exact ⟨hs0, hs⟩
    · have := h.len
      simp only
      split
      · omega
      · simp; omega
  · exact ⟨⟨hg.fine, hg.nxt, hg.rng, hg.last, hg.len, hg.sent⟩, h.code, h.hi, h.ks, by have := h.len; show o.K.length ≤ c + 1; omega⟩
theorem step_good {at_ : Int} {x : PP × PP} {d : Spot} {k c c' : Nat} (h1 : GoodP x.1 k c) (h2 : GoodP x.2 k c') (h0 : 0 ≤ at_) (ha : at_ ≤ 1000) : GoodP (stepP at_ x d).1 (k + 1) c ∧ GoodP (stepP at_ x d).2 (k + 1) (c' + 1) ∧ (stepP at_ x d).1.K = x.1.K := by
  unfold stepP
  split
  · exact ⟨⟨h1.good.more 0, h1.code, h1.hi, h1.ks, h1.len⟩, ⟨h2.good.more 0, h2.code, h2.hi, h2.ks, by have := h2.len; omega⟩, rfl⟩
  · rename_i port next' P' ho
    obtain ⟨g1, g2⟩ := out_good h1.good h0 ha ho
    exact ⟨⟨⟨g1.fine, g1.nxt, g1.rng, g1.last, g1.len, g1.sent⟩, h1.code, h1.hi, h1.ks, h1.len⟩, hear_good h2 h1.hi (outer_code h1.code g2), rfl⟩
theorem GoodP.up {p : PP} {k j c i : Nat} (h : GoodP p k c) (hk : k ≤ j) (hc : c ≤ i) : GoodP p j i :=
  ⟨⟨h.good.fine, h.good.nxt, h.good.rng, h.good.last, by have := h.good.len; omega, fun e he => by have := h.good.sent e he; omega⟩, h.code, h.hi, h.ks, by have := h.len; omega⟩
theorem fold_good {at_ : Int} (h0 : 0 ≤ at_) (ha : at_ ≤ 1000) : ∀ (K : List Spot) (x : PP × PP) (k c c' : Nat), GoodP x.1 k c → GoodP x.2 k c' → GoodP (K.foldl (stepP at_) x).1 (k + K.length) c ∧ GoodP (K.foldl (stepP at_) x).2 (k + K.length) (c' + K.length) ∧ (K.foldl (stepP at_) x).1.K = x.1.K
  | [], _, _, _, _, h1, h2 => ⟨h1, h2, rfl⟩
  | d :: K, x, k, c, c', h1, h2 => by
    obtain ⟨g1, g2, g3⟩ := step_good (d := d) h1 h2 h0 ha
    have := fold_good h0 ha K (stepP at_ x d) (k + 1) c (c' + 1) g1 g2
    rw [show k + 1 + K.length = k + (d :: K).length by simp; omega, show c' + 1 + K.length = c' + (d :: K).length by simp; omega, g3] at this
    exact this
theorem turn_good {at_ : Int} (h0 : 0 ≤ at_) (ha : at_ ≤ 1000) {x : PP × PP} {k c c' : Nat} (h1 : GoodP x.1 k c) (h2 : GoodP x.2 k c') : GoodP (turnP at_ x).1 (k + c) c ∧ GoodP (turnP at_ x).2 (k + c) (c' + c) := by
  obtain ⟨g1, g2, _⟩ := fold_good h0 ha x.1.K x k c c' h1 h2
  have := h1.len
  exact ⟨g1.up (by omega) (Nat.le_refl _), g2.up (by omega) (by omega)⟩
theorem round_good {at_ : Int} (h0 : 0 ≤ at_) (ha : at_ ≤ 1000) {x : PP × PP} {k c : Nat} (h1 : GoodP x.1 k c) (h2 : GoodP x.2 k c) : GoodP (roundP at_ x).1 (k + 3 * c) (3 * c) ∧ GoodP (roundP at_ x).2 (k + 3 * c) (3 * c) := by
  obtain ⟨g1, g2⟩ := turn_good h0 ha h1 h2
  obtain ⟨k1, k2⟩ := turn_good (x := ((turnP at_ x).2, (turnP at_ x).1)) h0 ha g2 g1
  exact ⟨k2.up (by omega) (by omega), k1.up (by omega) (by omega)⟩

/-! ### the beginning -/
theorem fresh_eq {n : NatC} (hn : Fine n) : outP n 0 innerS serverS n.first [] = some (n.first, afterP n n.first, [⟨innerS, n.first, seenS serverS n.maps, 0, none, 0, [serverS]⟩]) := by
  have hf : freeP n [] n.first = n.first := by
    unfold freeP
    obtain ⟨m, hm⟩ : ∃ m, n.ports.toNat = m + 1 := ⟨n.ports.toNat - 1, by unfold Fine at hn; omega⟩
    rw [hm, List.range_succ_eq_map]
    simp [iterP]
  unfold outP
  rw [List.filter_nil, show idxP (isEntry n 0 innerS (seenS serverS n.maps)) ([] : List Ent) = -1 from rfl, if_neg (by omega), if_pos (by unfold Fine at hn; simp; omega), hf]
  rfl
theorem freshP_eq {n : NatC} (hn : Fine n) : freshP n = (n.first, afterP n n.first, [⟨innerS, n.first, seenS serverS n.maps, 0, none, 0, [serverS]⟩]) := by
  unfold freshP
  rw [fresh_eq hn]
  rfl
theorem first_in {n : NatC} (hn : Fine n) : InRange n n.first := by unfold Fine at hn; unfold InRange; omega
theorem start_good {a b : NatC} (ha : natCode a = 0) (hb : natCode b = 0) (ha0 : 0 ≤ a.hi) (hb0 : 0 ≤ b.hi) : GoodP (startP a b).1 1 1 ∧ GoodP (startP a b).2 1 1 := by
  have fa := (nat_fine ha).1
  have fb := (nat_fine hb).1
  have mk : ∀ n m : NatC, natCode n = 0 → natCode m = 0 → 0 ≤ n.hi → 0 ≤ m.hi → Fine n → Fine m → GoodP ⟨n, afterP n n.first, [⟨innerS, n.first, seenS serverS n.maps, 0, none, 0, [serverS]⟩], [outer m m.first], 0⟩ 1 1 := by
    intro n m hn hm h0 h1 fn fm
    refine ⟨⟨fn, after_in fn (first_in fn), ?_, ?_, by simp, ?_⟩, hn, h0, ?_, by simp⟩
    · intro e he; simp at he; subst he; exact first_in fn
    · intro e he; simp at he; subst he; simp
    · intro e he; simp at he; subst he; simp
    · intro x hx; simp at hx; subst hx; exact ⟨h1, outer_code hm (first_in fm)⟩
  unfold startP
  rw [freshP_eq fa, freshP_eq fb]
  exact ⟨mk a b ha hb ha0 hb0 fa fb, mk b a hb ha hb0 ha0 fb fa⟩
theorem can_good {a b : NatC} (ha : natCode a = 0) (hb : natCode b = 0) (ha0 : 0 ≤ a.hi) (hb0 : 0 ≤ b.hi) : ∀ r : Nat, r ≤ 5 → GoodP (canP a b r).1 (2 * 3 ^ r) (3 ^ r) ∧ GoodP (canP a b r).2 (2 * 3 ^ r) (3 ^ r)
  | 0, _ => by
    obtain ⟨h1, h2⟩ := start_good ha hb ha0 hb0
    rw [canP]
    exact ⟨h1.up (by simp) (by simp), h2.up (by simp) (by simp)⟩
  | r + 1, hr => by
    obtain ⟨h1, h2⟩ := can_good ha hb ha0 hb0 r (by omega)
    rw [canP_succ, Nat.pow_succ]
    obtain ⟨g1, g2⟩ := round_good (at_ := (r : Int) + 1) (by omega) (by omega) h1 h2
    generalize 3 ^ r = q at *
    exact ⟨g1.up (by omega) (by omega), g2.up (by omega) (by omega)⟩

/-! ### where both map by nothing -/
def ezP (n : NatC) (next l : Int) (S K : List Spot) (h : Int) : PP := ⟨n, next, [⟨innerS, n.first, noSpot, l, none, 0, S⟩], K, h⟩
theorem ez_filter {n : NatC} {at_ l : Int} {S : List Spot} (h : at_ - l < n.timeout) : ([⟨innerS, n.first, noSpot, l, none, 0, S⟩] : List Ent).filter (lasts n at_) = [⟨innerS, n.first, noSpot, l, none, 0, S⟩] := by
  simp [lasts, h]
theorem ez_out {n : NatC} {at_ l next : Int} {S : List Spot} {d : Spot} (hm : n.maps = 1) (h : at_ - l < n.timeout) :
    outP n at_ innerS d next [⟨innerS, n.first, noSpot, l, none, 0, S⟩] = some (n.first, next, [⟨innerS, n.first, noSpot, at_, none, 0, sentOf ⟨innerS, n.first, noSpot, l, none, 0, S⟩ d⟩]) := by
  have hi : idxP (isEntry n at_ innerS (seenS d n.maps)) [⟨innerS, n.first, noSpot, l, none, 0, S⟩] = 0 := by
    rw [hm]
    have : isEntry n at_ innerS (seenS d 1) ⟨innerS, n.first, noSpot, l, none, 0, S⟩ = true := by
      unfold isEntry
      simp [seenS, Spot.beq_refl, lasts, h]
    simp [idxP, List.findIdx?_cons, this]
  unfold outP
  rw [ez_filter h, hi, if_pos (by omega)]
  rfl
theorem ez_hear {n : NatC} {at_ l next : Int} {S K : List Spot} {s : Spot} {h : Int} (ht : at_ - l < n.timeout) (hk : K.any (fun k => s.beq k) = true) :
    hearP at_ s n.first (ezP n next l S K h) = ezP n next l S K (if (n.lets == 1 || S.any (letsIn n s)) then (if h = 0 then at_ else h) else h) := by
  have h1 : (inP n at_ s n.first [⟨innerS, n.first, noSpot, l, none, 0, S⟩]) = ((n.lets == 1 || S.any (letsIn n s)), [⟨innerS, n.first, noSpot, l, none, 0, S⟩]) := by
    unfold inP
    rw [ez_filter ht]
    simp [letEnt]
  unfold hearP ezP
  simp only [h1, hk, if_true]
  cases (n.lets == 1 || S.any (letsIn n s)) <;> rfl
theorem ez_step {a b : NatC} {at_ la lb na nb ha hb : Int} {Sa Sb Ka Kb : List Spot} {d : Spot} (hm : a.maps = 1) (h1 : at_ - la < a.timeout) (h2 : at_ - lb < b.timeout) (hk : Kb.any (fun k => (outer a a.first).beq k) = true) (hd : d.port = b.first) :
    stepP at_ (ezP a na la Sa Ka ha, ezP b nb lb Sb Kb hb) d = (ezP a na at_ (sentOf ⟨innerS, a.first, noSpot, la, none, 0, Sa⟩ d) Ka ha, ezP b nb lb Sb Kb (if (b.lets == 1 || Sb.any (letsIn b (outer a a.first))) then (if hb = 0 then at_ else hb) else hb)) := by
  have ho := ez_out (next := na) (S := Sa) (d := d) hm h1
  have hh := ez_hear (next := nb) (S := Sb) (h := hb) h2 hk
  unfold stepP
  show (match outP a at_ innerS d na [⟨innerS, a.first, noSpot, la, none, 0, Sa⟩] with
    | none => _
    | some (port, next', P') => _) = _
  rw [ho]
  simp only [ezP] at hh ⊢
  rw [hd, hh]
theorem self_any (s : Spot) : ([s] : List Spot).any (fun k => s.beq k) = true := by simp [Spot.beq_refl]
theorem can_easy {a b : NatC} (fa : Fine a) (fb : Fine b) (ma : a.maps = 1) (mb : b.maps = 1) (ta : 1 < a.timeout) (tb : 1 < b.timeout) : (canP a b 2).1.heard > 0 ∧ (canP a b 2).2.heard > 0 := by
  have e0 : canP a b 0 = (ezP a (afterP a a.first) 0 [serverS] [outer b b.first] 0, ezP b (afterP b b.first) 0 [serverS] [outer a a.first] 0) := by
    rw [canP]
    unfold startP
    rw [freshP_eq fa, freshP_eq fb, ma, mb]
    rfl
  have e1 := canP_succ a b 0
  have e2 := canP_succ a b 1
  rw [show ((0 : Nat) : Int) + 1 = 1 by rfl, e0] at e1
  rw [show ((1 : Nat) : Int) + 1 = 2 by rfl] at e2
  have hsa : (sentOf ⟨innerS, a.first, noSpot, 0, none, 0, [serverS]⟩ (outer b b.first)).any (letsIn a (outer b b.first)) = true := any_letsIn (sentOf_has _ _)
  have hsb : (sentOf ⟨innerS, b.first, noSpot, 0, none, 0, [serverS]⟩ (outer a a.first)).any (letsIn b (outer a a.first)) = true := any_letsIn (sentOf_has _ _)
  generalize hSa : sentOf ⟨innerS, a.first, noSpot, 0, none, 0, [serverS]⟩ (outer b b.first) = Sa at hsa
  generalize hSb : sentOf ⟨innerS, b.first, noSpot, 0, none, 0, [serverS]⟩ (outer a a.first) = Sb at hsb
  obtain ⟨hy, hyy⟩ : ∃ hy, (if (b.lets == 1 || ([serverS] : List Spot).any (letsIn b (outer a a.first))) then (if (0 : Int) = 0 then (1 : Int) else 0) else 0) = hy := ⟨_, rfl⟩
  have t1 : turnP 1 (ezP a (afterP a a.first) 0 [serverS] [outer b b.first] 0, ezP b (afterP b b.first) 0 [serverS] [outer a a.first] 0) = (ezP a (afterP a a.first) 1 Sa [outer b b.first] 0, ezP b (afterP b b.first) 0 [serverS] [outer a a.first] hy) := by
    show stepP 1 _ (outer b b.first) = _
    rw [ez_step ma (by omega) (by omega) (self_any _) rfl, hSa, hyy]
  have t2 : turnP 1 (ezP b (afterP b b.first) 0 [serverS] [outer a a.first] hy, ezP a (afterP a a.first) 1 Sa [outer b b.first] 0) = (ezP b (afterP b b.first) 1 Sb [outer a a.first] hy, ezP a (afterP a a.first) 1 Sa [outer b b.first] 1) := by
    show stepP 1 _ (outer a a.first) = _
    rw [ez_step mb (by omega) (by omega) (self_any _) rfl, hSb, hsa, Bool.or_true]
    rfl
  have e1' : canP a b 1 = (ezP a (afterP a a.first) 1 Sa [outer b b.first] 1, ezP b (afterP b b.first) 1 Sb [outer a a.first] hy) := by
    rw [e1]
    unfold roundP
    simp only [t1, t2]
  have t3 : turnP 2 (ezP a (afterP a a.first) 1 Sa [outer b b.first] 1, ezP b (afterP b b.first) 1 Sb [outer a a.first] hy) = (ezP a (afterP a a.first) 2 (sentOf ⟨innerS, a.first, noSpot, 1, none, 0, Sa⟩ (outer b b.first)) [outer b b.first] 1, ezP b (afterP b b.first) 1 Sb [outer a a.first] (if hy = 0 then 2 else hy)) := by
    show stepP 2 _ (outer b b.first) = _
    rw [ez_step ma (by omega) (by omega) (self_any _) rfl, hsb, Bool.or_true]
    rfl
  have hr := round_hears 2 (by omega) (canP a b 1)
  rw [← e2] at hr
  have hbd := heard_bound a b 2
  have hyp : 0 ≤ hy := by rw [← hyy]; split <;> simp
  refine ⟨?_, ?_⟩
  · rw [e1'] at hr
    have : (canP a b 2).1.heard = 1 := hr.1.1 (by simp [ezP])
    omega
  · have h2 := fold_hears 2 (by omega) ((turnP 2 (canP a b 1)).2).K ((turnP 2 (canP a b 1)).2, (turnP 2 (canP a b 1)).1)
    have e3 : (canP a b 2).2.heard = (turnP 2 (canP a b 1)).2.heard := by
      rw [e2]
      unfold roundP
      exact h2.1
    rw [e3, e1', t3]
    simp only [ezP]
    split <;> omega
end Go.Proofs.YtphjgjcbolmdiaaGreatDoor

namespace Go.Proofs.YtphjgjcbolmdiaaGreatDoor
open Go.RowKit Go.Hw

/-- A node lies in memory, in blocks of G; what it knows lies at KA. -/
structure PeerX (w : World) (G : Nat → Prop) (X T : Nat) (now : Int) (p : PP) (F : Nat → Prop) (A : Option Addr) (cap : Nat) (L : List Ent) (KA : Option Addr) (Kcap : Nat) : Prop where
  tr : TrAt w F T p.n now p.next A cap L
  core : coreL L = p.P
  fG : ∀ k, F k → G k ∧ k ≠ X
  obj : w.heap[X]? = some (.cells #[.pointer (some ⟨T, 0, none⟩), .slice KA p.K.length Kcap, .int .i64 p.heard] 106 (0, 0))
  ks : w.ownsRow 0 42 4 (.slice KA p.K.length Kcap) p.K.length (spotsC p.K)
  kb : ∀ k, (Value.slice KA p.K.length Kcap).ownBlock = some k → G k ∧ k ≠ X ∧ ¬ F k
  gX : G X
  lim : ∀ k, G k → k < w.heap.size
theorem PeerX.keep {w w' : World} {G : Nat → Prop} {X T : Nat} {now : Int} {p : PP} {F : Nat → Prop} {A : Option Addr} {cap : Nat} {L : List Ent} {KA : Option Addr} {Kcap : Nat} (h : PeerX w G X T now p F A cap L KA Kcap) (hk : ∀ k, G k → w'.heap[k]? = w.heap[k]?) (hs : w.heap.size ≤ w'.heap.size) : PeerX w' G X T now p F A cap L KA Kcap :=
  { h with
    tr := h.tr.keep (fun k hf _ => hk k (h.fG k hf).1) fun _ h => h
    obj := (hk X h.gX).trans h.obj
    ks := own_same h.ks fun k hk' => hk k (h.kb k hk').1
    lim := fun k hg => Nat.lt_of_lt_of_le (h.lim k hg) hs }
theorem PeerX.below {w w' : World} {G : Nat → Prop} {X T : Nat} {now : Int} {p : PP} {F : Nat → Prop} {A : Option Addr} {cap : Nat} {L : List Ent} {KA : Option Addr} {Kcap : Nat} (h : PeerX w G X T now p F A cap L KA Kcap) (hb : Below w.heap.size w w') : PeerX w' G X T now p F A cap L KA Kcap :=
  h.keep (fun k hg => hb.block k (h.lim k hg)) hb.size
theorem PeerX.other {w w' : World} {G F' : Nat → Prop} {X T : Nat} {now : Int} {p : PP} {F : Nat → Prop} {A : Option Addr} {cap : Nat} {L : List Ent} {KA : Option Addr} {Kcap : Nat} (h : PeerX w G X T now p F A cap L KA Kcap) (hc : Chg F' w w') (hd : ∀ k, G k → ¬ F' k) : PeerX w' G X T now p F A cap L KA Kcap :=
  h.keep (fun k hg => hc.block k (h.lim k hg) (hd k hg)) hc.size
/-- Its translator has sent. -/
theorem PeerX.sent {w w' : World} {G : Nat → Prop} {X T : Nat} {now at_ next' : Int} {p : PP} {F : Nat → Prop} {A A' : Option Addr} {cap cap' : Nat} {L L' P' : List Ent} {KA : Option Addr} {Kcap : Nat} (h : PeerX w G X T now p F A cap L KA Kcap) (hc : Chg F w w')
    (ht : TrAt w' (fun j => Plus F w j ∧ j < w'.heap.size) T p.n at_ next' A' cap' L') (hP : coreL L' = P') : PeerX w' (fun j => Plus G w j ∧ j < w'.heap.size) X T at_ { p with next := next', P := P' } (fun j => Plus F w j ∧ j < w'.heap.size) A' cap' L' KA Kcap where
  tr := ht
  core := hP
  fG := fun k hk => by
    rcases hk with ⟨hk | hk, hl⟩
    · exact ⟨⟨.inl (h.fG k hk).1, hl⟩, (h.fG k hk).2⟩
    · exact ⟨⟨.inr hk, hl⟩, fun e => by have := h.lim X h.gX; omega⟩
  obj := (hc.block X (h.lim X h.gX) fun hf => (h.fG X hf).2 rfl).trans h.obj
  ks := own_same h.ks fun k hk => hc.block k (h.lim k (h.kb k hk).1) (h.kb k hk).2.2
  kb := fun k hk => ⟨⟨.inl (h.kb k hk).1, Nat.lt_of_lt_of_le (h.lim k (h.kb k hk).1) hc.size⟩, (h.kb k hk).2.1, fun hf => by
    rcases hf with ⟨hf | hf, _⟩
    · exact (h.kb k hk).2.2 hf
    · have := h.lim k (h.kb k hk).1; omega⟩
  gX := ⟨.inl h.gX, Nat.lt_of_lt_of_le (h.lim X h.gX) hc.size⟩
  lim := fun k hk => hk.2
/-- A packet has come in. -/
theorem PeerX.came {w w' : World} {G : Nat → Prop} {X T : Nat} {now at_ : Int} {p : PP} {F : Nat → Prop} {A A' : Option Addr} {cap cap' : Nat} {L L' P' : List Ent} {KA : Option Addr} {Kcap : Nat} (h : PeerX w G X T now p F A cap L KA Kcap) (hc : Chg F w w')
    (ht : TrAt w' F T p.n at_ p.next A' cap' L') (hP : coreL L' = P') : PeerX w' G X T at_ { p with P := P' } F A' cap' L' KA Kcap where
  tr := ht
  core := hP
  fG := h.fG
  obj := (hc.block X (h.lim X h.gX) fun hf => (h.fG X hf).2 rfl).trans h.obj
  ks := own_same h.ks fun k hk => hc.block k (h.lim k (h.kb k hk).1) (h.kb k hk).2.2
  kb := h.kb
  gX := h.gX
  lim := fun k hk => Nat.lt_of_lt_of_le (h.lim k hk) hc.size
/-- It has heard. -/
theorem PeerX.hears {w w' : World} {G : Nat → Prop} {X T : Nat} {now h' : Int} {p : PP} {F : Nat → Prop} {A : Option Addr} {cap : Nat} {L : List Ent} {KA : Option Addr} {Kcap : Nat} (h : PeerX w G X T now p F A cap L KA Kcap)
    (hW : w.setCell ⟨X, 2, none⟩ (.int .i64 h') = w') : PeerX w' G X T now { p with heard := h' } F A cap L KA Kcap where
  tr := h.tr.keep (fun k hf _ => by rw [← hW, heap_set_other (h.fG k hf).2]) fun _ h => h
  core := h.core
  fG := h.fG
  obj := by
    rw [← hW, heap_set h.obj]
    rfl
  ks := own_same h.ks fun k hk => by rw [← hW, heap_set_other (h.kb k hk).2.1]
  kb := h.kb
  gX := h.gX
  lim := fun k hk => by rw [← hW]; simpa using h.lim k hk
/-- It knows one spot more. -/
theorem PeerX.knows {w w1 w' : World} {G : Nat → Prop} {X T g2 cap2 : Nat} {now : Int} {p : PP} {F : Nat → Prop} {A : Option Addr} {cap : Nat} {L : List Ent} {KA : Option Addr} {Kcap : Nat} {s : Spot} (h : PeerX w G X T now p F A cap L KA Kcap)
    (hg : w.grownBy w1 (Value.slice KA p.K.length Kcap).ownBlock) (hown : w1.ownsRow 0 42 4 (.slice (some ⟨g2, 0, none⟩) (p.K.length + 1) cap2) (p.K.length + 1) (spotsC (p.K ++ [s])))
    (hat : (Value.slice KA p.K.length Kcap).ownBlock = some g2 ∨ w.heap.size ≤ g2) (hW : w1.setCell ⟨X, 1, none⟩ (.slice (some ⟨g2, 0, none⟩) (p.K.length + 1) cap2) = w') :
    PeerX w' (fun j => Plus G w j ∧ j < w'.heap.size) X T now { p with K := p.K ++ [s] } F A cap L (some ⟨g2, 0, none⟩) cap2 where
  tr := h.tr.keep (fun k hf hl => by
    rw [← hW, heap_set_other (h.fG k hf).2]
    exact hg.block k hl fun e => (h.kb k e.symm).2.2 hf) fun _ h => h
  core := h.core
  fG := fun k hk => ⟨⟨.inl (h.fG k hk).1, by rw [← hW]; have := h.lim k (h.fG k hk).1; have := hg.size; simp; omega⟩, (h.fG k hk).2⟩
  obj := by
    have h1 := (hg.block X (h.lim X h.gX) fun e => (h.kb X e.symm).2.1 rfl).trans h.obj
    rw [← hW, heap_set h1]
    simp
  ks := by
    simp only [List.length_append, List.length_cons, List.length_nil, Nat.zero_add]
    refine own_same hown fun k hk => ?_
    injection hk with hk
    rw [← hW, heap_set_other ?_]
    rcases hat with c | c
    · intro e; subst e; exact (h.kb _ c).2.1 hk
    · have := h.lim X h.gX
      simp only at hk
      omega
  kb := fun k hk => by
    injection hk with hk
    simp only at hk
    subst hk
    have hl := (hown.lt g2 rfl).2
    rcases hat with c | c
    · exact ⟨⟨.inl (h.kb _ c).1, by rw [← hW]; simpa using hl⟩, (h.kb _ c).2⟩
    · exact ⟨⟨.inr c, by rw [← hW]; simpa using hl⟩, fun e => by have := h.lim X h.gX; omega, fun hf => by have := h.lim _ (h.fG _ hf).1; omega⟩
  gX := ⟨.inl h.gX, by rw [← hW]; have := h.lim X h.gX; have := hg.size; simp; omega⟩
  lim := fun k hk => hk.2

/-- What Out leaves behind, its answer told apart. -/
def OutH (F : Nat → Prop) (w : World) (T : Nat) (n : NatC) (at_ : Int) (s d : Spot) (next : Int) (P : List Ent) (q : Spot) (c : Int) (w' : World) : Prop :=
  (outP n at_ s d next P = none ∧ q = noSpot ∧ c = 12 ∧ Below w.heap.size w w') ∨
  ∃ port next' P', outP n at_ s d next P = some (port, next', P') ∧ q = outer n port ∧ c = 0 ∧ Chg F w w' ∧ ∃ A cap L, TrAt w' (fun j => Plus F w j ∧ j < w'.heap.size) T n at_ next' A cap L ∧ coreL L = P'
theorem OutH.chg {F : Nat → Prop} {w w' : World} {T : Nat} {n : NatC} {at_ : Int} {s d q : Spot} {next c : Int} {P : List Ent} (h : OutH F w T n at_ s d next P q c w') : Chg F w w' := by
  rcases h with ⟨_, _, _, hb⟩ | ⟨_, _, _, _, _, _, hc, _⟩
  · exact Chg.of_below hb
  · exact hc
theorem out_h {T : Nat} {n : NatC} {F : Nat → Prop} {at_ : Int} {s d : Spot} {next : Int} {P : List Ent} {w : World} {e : Ending} {w' : World} (h : OutG F w T n at_ s d next P e w') :
    ∃ (q : Spot) (c : Int), e = .returned (.tuple #[.agg #[.bool q.six, .int .u64 q.hi, .int .u64 q.lo, .int .i64 q.port], .int .i64 c]) ∧ OutH F w T n at_ s d next P q c w' := by
  rcases h with ⟨h1, rfl, h3⟩ | ⟨port, next', P', h1, rfl, h2⟩
  · exact ⟨noSpot, 12, rfl, .inl ⟨h1, rfl, rfl, h3⟩⟩
  · exact ⟨outer n port, 0, rfl, .inr ⟨port, next', P', h1, rfl, rfl, h2⟩⟩
/-- What In leaves behind, its answer told apart. -/
def InH (F : Nat → Prop) (w : World) (T : Nat) (n : NatC) (at_ : Int) (s : Spot) (p next : Int) (P : List Ent) (ok : Bool) (w' : World) : Prop :=
  Chg F w w' ∧ (∃ A cap L, TrAt w' F T n at_ next A cap L ∧ coreL L = (inP n at_ s p P).2) ∧ (inP n at_ s p P).1 = ok
theorem in_h {T : Nat} {n : NatC} {F : Nat → Prop} {at_ : Int} {s : Spot} {p next : Int} {P : List Ent} {w : World} {e : Ending} {w' : World} (h : InG F w T n at_ s p next P e w') :
    ∃ (q : Spot) (ok : Bool), e = .returned (.tuple #[.agg #[.bool q.six, .int .u64 q.hi, .int .u64 q.lo, .int .i64 q.port], .bool ok, .int .i64 0]) ∧ InH F w T n at_ s p next P ok w' := by
  obtain ⟨h1, h2, ⟨h3, q, rfl⟩ | ⟨h3, rfl⟩⟩ := h
  · exact ⟨q, true, rfl, h1, h2, h3⟩
  · exact ⟨noSpot, false, rfl, h1, h2, h3⟩

theorem inner_any (w : World) : Calls Tryz.prog 44 #[] w fun e w' => e = .returned (.agg #[.bool false, .int .u64 0, .int .u64 167772161, .int .i64 1000]) ∧ Below w.heap.size w w' := by
  go_enter Tryz.func44, Tryz.ntmps44
  go_wp2_with fail
  exact bodyPost_ret (v := .agg #[.bool false, .int .u64 0, .int .u64 167772161, .int .i64 1000]) (by simp [results, Tryz.results44, go_sem]) rfl ⟨rfl, (Below.refl _ _).alloc (Nat.le_refl _) _⟩
end Go.Proofs.YtphjgjcbolmdiaaGreatDoor
