/- Translators: Out at two spots that have no entry yet. -/
import Derived.Test.YtphjgjcbolmdiaaGreatDoorNtM
import Derived.Deep.Cut
import Derived.Deep.RegionLaw
namespace Go.Proofs.YtphjgjcbolmdiaaGreatDoor
open Go.RowKit Go.Hw

def newEnt (s dep : Spot) (port : Int) : Ent := ⟨s, port, dep, 0, none, 0, []⟩
def OutNew (F : Nat → Prop) (w : World) (T : Nat) (n : NatC) (at_ next : Int) (s d : Spot) (L : List Ent) (e : Ending) (w' : World) : Prop :=
  ∃ port, e = .returned (.tuple #[.agg #[.bool n.six, .int .u64 n.hi, .int .u64 n.lo, .int .i64 port], .int .i64 0]) ∧ IsFree n L next port ∧ Chg F w w' ∧
    ∃ A cap sA scap, TrAt w' (Plus F w) T n at_ (afterP n port) A cap (L ++ [⟨s, port, seenS d n.maps, at_, sA, scap, [d]⟩])

theorem appended_far2 {w9 w10 : World} {o : Obj} {row : Option Nat} {g : Nat} (h : (w9.alloc o).grownBy w10 row) (hg : g < w9.heap.size) (hr : some g ≠ row) (j : Nat) : w10.cell? ⟨g, j, none⟩ = w9.cell? ⟨g, j, none⟩ ∧ w10.frozen? ⟨g, j, none⟩ = w9.frozen? ⟨g, j, none⟩ := by
  have h1 : w10.heap[g]? = w9.heap[g]? := (h.block g (by simp; omega) hr).trans (heap_alloc_old w9 o hg)
  exact ⟨World.cell?_of_block (w := w9) h1, World.frozen?_of_block (w := w9) h1⟩
def CutR (F : Nat → Prop) (w : World) (T : Nat) (n : NatC) (at_ next : Int) (s d : Spot) (L : List Ent) (v15 : Value) (wc : World) : Prop :=
  v15 = .int .i64 (L.length : Nat) ∧ ∃ port A cap G, IsFree n L next port ∧ TrAt wc G T n at_ (afterP n port) A cap (L ++ [newEnt s (seenS d n.maps) port]) ∧ Chg F w wc ∧
    (∀ k, G k → (k ≠ w.heap.size ∧ k ≠ w.heap.size + 1 ∧ k ≠ w.heap.size + 1 + 1) ∧ Plus F w k) ∧
    wc.heap[w.heap.size]? = some (.cells #[.bool s.six, .int .u64 s.hi, .int .u64 s.lo, .int .i64 s.port] 42 (0, 0)) ∧
    wc.heap[w.heap.size + 1]? = some (.cells #[.bool d.six, .int .u64 d.hi, .int .u64 d.lo, .int .i64 d.port] 42 (0, 0)) ∧
    wc.heap[w.heap.size + 1 + 1]? = some (.cells #[.bool false, .int .u64 0, .int .u64 0, .int .i64 0] 42 (0, 0))
theorem Tryz.infoEnt : (Tryz.prog.info? 97).map (fun i => (i.zero, i.size, i.bytes)) = some (some (.agg #[.bool false, .int .u64 0, .int .u64 0, .int .i64 0, .int .i64 0, .bool false, .int .u64 0, .int .u64 0, .int .i64 0, .int .i64 0, .slice none 0 0]), 11, 104) := by kernel_rfl

/-- Behind the append of an entry. -/
theorem new_end {F : Nat → Prop} {w w8 w9 w10 W11 : World} {T : Nat} {n : NatC} {at_ next : Int} {s d dep : Spot} {L : List Ent} {A : Option Addr} {cap g2 cap2 : Nat} {port : Int} {o : Obj}
    (hF : ∀ k, F k → k < w.heap.size) (hT8 : TrAt w8 F T n at_ (afterP n port) A cap L) (hC8 : Chg F w w8) (hD : seenS d n.maps = dep) (hfr : IsFree n L next port)
    (e0 : w8.heap[w.heap.size]? = some (.cells #[.bool s.six, .int .u64 s.hi, .int .u64 s.lo, .int .i64 s.port] 42 (0, 0)))
    (e1 : w8.heap[w.heap.size + 1]? = some (.cells #[.bool d.six, .int .u64 d.hi, .int .u64 d.lo, .int .i64 d.port] 42 (0, 0)))
    (e2 : w8.heap[w.heap.size + 1 + 1]? = some (.cells #[.bool false, .int .u64 0, .int .u64 0, .int .i64 0] 42 (0, 0)))
    (hb9 : Below w8.drew.heap.size w8.drew w9) (hown : w10.ownsRow 0 97 11 (.slice (some ⟨g2, 0, none⟩) (L.length + 1) cap2) (L.length + 1) (entsC L ++ [.bool s.six, .int .u64 s.hi, .int .u64 s.lo, .int .i64 s.port, .int .i64 port, .bool dep.six, .int .u64 dep.hi, .int .u64 dep.lo, .int .i64 dep.port, .int .i64 0, .slice none 0 0]))
    (hgrow : (w9.alloc o).grownBy w10 (Value.slice A L.length cap).ownBlock) (hat : (Value.slice A L.length cap).ownBlock = some g2 ∨ g2 = w9.heap.size + 1)
    (hW : w10.setCell ⟨T, 10, none⟩ (.slice (some ⟨g2, 0, none⟩) (L.length + 1) cap2) = W11) : CutR F w T n at_ next s d L (.int .i64 (L.length : Nat)) W11 := by
  have hb := drewB hb9
  have hT9 := hT8.below hb
  have hg9 : w9.grownBy w10 (Value.slice A L.length cap).ownBlock := (World.grownBy_alloc w9 o _).andThen hgrow (fun _ h => .inr h)
  have hp := hT9.push (newEnt s dep port) rfl rfl rfl hg9 (A' := some ⟨g2, 0, none⟩) (cap' := cap2) hown (by
    intro k hk
    injection hk with hk
    rcases hat with c | c
    · left; rw [← hk]; exact c
    · right; simp only at hk; omega)
  rw [hW] at hp
  have hTl := hF T hT8.fT
  have hs9 : w.heap.size + 1 + 1 < w9.heap.size := Nat.lt_of_lt_of_le (lt_of_block e2) hb.size
  have hlv : ∀ k, (Value.slice A L.length cap).ownBlock = some k → k < w.heap.size := fun k hk => hF k (hT8.fA k hk)
  have hbox : ∀ b o, w.heap.size ≤ b → w8.heap[b]? = some o → W11.heap[b]? = some o := by
    intro b o hbs h
    rw [← hW, heap_set_other (by omega)]
    exact (hg9.block b (Nat.lt_of_lt_of_le (lt_of_block h) hb.size) (fun c => by have := hlv b c.symm; omega)).trans ((hb.block b (lt_of_block h)).trans h)
  refine ⟨rfl, port, some ⟨g2, 0, none⟩, cap2, Plus F w9, hfr, by rw [hD]; exact hp, ?_, ?_, hbox _ _ (Nat.le_refl _) e0, hbox _ _ (by omega) e1, hbox _ _ (by omega) e2⟩
  · rw [← hW]
    exact ((hC8.trans (Chg.of_below hb)).trans (Chg.of_grown hg9 fun k e _ => .inl (hT8.fA k e))).set (.inl hT8.fT) _ _
  · rintro k (c | c)
    · exact ⟨by have := hF k c; omega, .inl c⟩
    · exact ⟨by omega, .inr (by omega)⟩

theorem new_fin {F : Nat → Prop} {w W : World} {T : Nat} {n : NatC} {at_ next port : Int} {s d : Spot} {L L' : List Ent} {i g cap scap : Nat} {sA : Option Addr} {ee : Ent} (hL : L' = L ++ [newEnt s (seenS d n.maps) port] ∧ i = L.length) (he : newEnt s (seenS d n.maps) port = ee) (hf : IsFree n L next port) (hc : Chg F w W)
    (ht : TrAt W (Plus F w) T n at_ (afterP n port) (some ⟨g, 0, none⟩) cap (L'.set i { ee with last := at_, sA := sA, scap := scap, sent := sentOf ee d })) :
    OutNew F w T n at_ next s d L (.returned (.tuple #[.agg #[.bool n.six, .int .u64 n.hi, .int .u64 n.lo, .int .i64 ee.port], .int .i64 0])) W := by
  obtain ⟨rfl, rfl⟩ := hL
  subst he
  refine ⟨port, rfl, hf, hc, some ⟨g, 0, none⟩, cap, sA, scap, ?_⟩
  have e : (L ++ [newEnt s (seenS d n.maps) port]).set L.length { newEnt s (seenS d n.maps) port with last := at_, sA := sA, scap := scap, sent := sentOf (newEnt s (seenS d n.maps) port) d } = L ++ [⟨s, port, seenS d n.maps, at_, sA, scap, [d]⟩] := by
    rw [List.set_append_right _ _ (Nat.le_refl _)]
    simp [newEnt, sentOf]
  rw [e] at ht
  exact ht

set_option maxRecDepth 100000 in
set_option maxHeartbeats 4000000 in
theorem out_new (T : Nat) (n : NatC) (now next : Int) (F : Nat → Prop) (A : Option Addr) (cap : Nat) (L : List Ent) (at_ : Int) (s d : Spot) (w : World) (h : TrAt w F T n now next A cap L) (ok : Ok n now at_ L)
    (hF : ∀ k, F k → k < w.heap.size) (hs0 : 0 ≤ s.hi) (hd0 : 0 ≤ d.hi) (hs : spotCode s = 0) (hd : spotCode d = 0) (hr : idxP (isEntry n at_ s (seenS d n.maps)) L = -1) (hfull : (L.length : Int) < n.ports) (hsm : L.length < 2000) (hin : InRange n next) (K : Nat) (hK : L.any (fun e => e.port == iterP n K next) = false) :
    Calls Tryz.prog 13 #[.pointer (some ⟨T, 0, none⟩), .int .i64 at_, .agg #[.bool s.six, .int .u64 s.hi, .int .u64 s.lo, .int .i64 s.port], .agg #[.bool d.six, .int .u64 d.hi, .int .u64 d.lo, .int .i64 d.port]] w
      (OutNew F w T n at_ next s d L) := by
  have p0 := pair0 (.bool s.six) (.int .u64 s.hi) (.int .u64 s.lo) (.int .i64 s.port) (.bool d.six) (.int .u64 d.hi) (.int .u64 d.lo) (.int .i64 d.port)
  have p1 := pair1 (.bool s.six) (.int .u64 s.hi) (.int .u64 s.lo) (.int .i64 s.port) (.bool d.six) (.int .u64 d.hi) (.int .u64 d.lo) (.int .i64 d.port)
  have HH := Lib.hid h
  have OK := Lib.hid ok
  have HR := Lib.hid hr
  have HK := Lib.hid hK
  have HSP := Lib.hid hs
  have HDP := Lib.hid hd
  clear h ok hr hs hd hK
  go_enter Tryz.func13, Tryz.ntmps13
  go_wp2_with fail
  generalize hW : World.alloc _ _ = W1
  have hb1 : Below w.heap.size w W1 := by rw [← hW]; exact (three _ _ _ _).2.2.2
  have b0 : W1.heap[w.heap.size]? = some (.cells #[.bool s.six, .int .u64 s.hi, .int .u64 s.lo, .int .i64 s.port] 42 (0, 0)) := by rw [← hW]; exact (three _ _ _ _).1
  have b1 : W1.heap[w.heap.size + 1]? = some (.cells #[.bool d.six, .int .u64 d.hi, .int .u64 d.lo, .int .i64 d.port] 42 (0, 0)) := by rw [← hW]; exact (three _ _ _ _).2.1
  have b2 : W1.heap[w.heap.size + 1 + 1]? = some (.cells #[.bool false, .int .u64 0, .int .u64 0, .int .i64 0] 42 (0, 0)) := by rw [← hW]; exact (three _ _ _ _).2.2.1
  clear hW
  refine (timeFault_ok T n now next _ at_ W1 (HH.out.below hb1).blk OK.out.t2 OK.out.t0 OK.out.t1).mono ?_
  rintro e w2 ⟨rfl, rfl⟩
  obtain ⟨lS, s0, s1, s2, s3⟩ := spotAt_of b0
  obtain ⟨lD, d0, d1, d2, d3⟩ := spotAt_of b1
  have B0 := Lib.hid b0
  have B1 := Lib.hid b1
  have B2 := Lib.hid b2
  have HB1 := Lib.hid hb1
  clear b0 b1 b2 hb1
  go_wp2_with fail
  refine wp_loop_rounds 3 ?_
  rw [rounds_succ]
  go_wp2_with fail
  refine (spotFault_any s _ hs0).mono ?_
  rintro e w2 ⟨rfl, hb⟩
  rw [HSP.out]
  have HB2 := Lib.hid (below_box (Below.refl _ W1) (Nat.le_refl _) hb)
  clear hb s0 s1 s2 s3 d0 d1 d2 d3
  go_wp2_with fail
  rw [rounds_succ]
  go_wp2_with fail
  refine (spotFault_any d _ hd0).mono ?_
  rintro e w3 ⟨rfl, hb⟩
  rw [HDP.out]
  have HB3 := Lib.hid (below_box HB2.out HB2.out.size hb)
  clear hb HB2
  go_wp2_with fail
  rw [rounds_succ]
  go_wp2_with fail
  have hT3 := HH.out.below (HB1.out.trans (HB3.out.mono HB1.out.size))
  refine (lasting_any T n now next A cap L at_ w3 hT3.blk hT3.ents (Nat.le_trans OK.out.len (by omega)) OK.out.t0 OK.out.t1 OK.out.le).mono ?_
  rintro e w4 ⟨rfl, hb⟩
  rw [OK.out.count]
  have HB4 := Lib.hid (HB3.out.trans (hb.mono HB3.out.size))
  clear hb hT3 HB3
  obtain ⟨lS, s0, s1, s2, s3⟩ := (spotAt_of B0.out).below HB4.out
  obtain ⟨lD, d0, d1, d2, d3⟩ := (spotAt_of B1.out).below HB4.out
  go_wp2_with fail
  have hT4 := HH.out.below (HB1.out.trans (HB4.out.mono HB1.out.size))
  refine (find_any T n now next A cap L at_ s d w4 hT4.blk hT4.ents (Nat.le_trans OK.out.len (by omega)) OK.out.t0 OK.out.t1 OK.out.le).mono ?_
  rintro e w5 ⟨rfl, hb⟩
  rw [HR.out]
  have hfu : decide ((L.length : Int) ≥ n.ports) = false := by simp; omega
  have hfu2 : decide ((L.length : Int) ≥ 2000) = false := by simp; omega
  have HB5 := Lib.hid (HB4.out.trans (hb.mono HB4.out.size))
  clear hb hT4 HB4 s0 s1 s2 s3 d0 d1 d2 d3 lS lD
  have hT5 := HH.out.below (HB1.out.trans (HB5.out.mono HB1.out.size))
  have t4 := tr_cell hT5.blk 4
  simp only [List.getElem?_toArray, List.getElem?_cons_zero, List.getElem?_cons_succ] at t4
  go_wp2_with fail
  clear t4
  refine (pass_none T n now next A cap L at_ w5 hT5.blk hT5.ents (fun a e c => hT5.hA (by rw [e]; exact c)) (Nat.le_trans OK.out.len (by omega)) OK.out.t0 OK.out.t1 OK.out.le OK.out.all).mono ?_
  rintro e w6 ⟨rfl, hblk, hg⟩
  have hT6 := hT5.turn hg hblk
  have htl := tr_lt HH.out.blk
  have hB5s := HB5.out.size
  have lS := lt_of_block B0.out
  have lD := lt_of_block B1.out
  have lR := lt_of_block B2.out
  have C0 := Lib.hid ((hg.block w.heap.size (by omega) (fun e => by injection e with e; omega)).trans ((HB5.out.block _ lS).trans B0.out))
  have C1 := Lib.hid ((hg.block (w.heap.size + 1) (by omega) (fun e => by injection e with e; omega)).trans ((HB5.out.block _ lD).trans B1.out))
  have C2 := Lib.hid ((hg.block (w.heap.size + 1 + 1) (by omega) (fun e => by injection e with e; omega)).trans ((HB5.out.block _ lR).trans B2.out))
  have HC := Lib.hid (Chg.trans (Chg.of_below (F := F) (HB1.out.trans (HB5.out.mono HB1.out.size))) (Chg.of_grown hg (fun k e _ => .inl (by injection e with e; rw [← e]; exact HH.out.fT))))
  have HT6 := Lib.hid hT6
  clear hblk hg hT6 hT5 lS lD lR hB5s HB5 HB1 B0 B1 B2
  obtain ⟨lS, s0, s1, s2, s3⟩ := spotAt_of C0.out
  obtain ⟨lD, d0, d1, d2, d3⟩ := spotAt_of C1.out
  go_wp2_with fail
  refine (find_any T n at_ next A cap L at_ s d w6 HT6.out.blk HT6.out.ents (Nat.le_trans OK.out.len (by omega)) OK.out.t0 OK.out.t1 OK.out.le).mono ?_
  rintro e w7 ⟨rfl, hb⟩
  rw [HR.out]
  have D0 := Lib.hid ((hb.block w.heap.size lS).trans C0.out)
  have D1 := Lib.hid ((hb.block (w.heap.size + 1) lD).trans C1.out)
  have D2 := Lib.hid ((hb.block (w.heap.size + 1 + 1) (lt_of_block C2.out)).trans C2.out)
  have HC7 := Lib.hid (HC.out.trans (Chg.of_below hb))
  have HT7 := Lib.hid (HT6.out.below hb)
  clear hb HC HT6 C0 C1 C2 s0 s1 s2 s3 d0 d1 d2 d3 lS lD
  have htl7 := tr_lt HT7.out.blk
  go_upto_if 70 with (fail)
  go_cut [15] from 16 (fun v15 wc => CutR F w T n at_ next s d L v15 wc)
  case first =>
    have t10 := tr_cell HT7.out.blk 10
    simp only [List.getElem?_toArray, List.getElem?_cons_zero, List.getElem?_cons_succ] at t10
    go_wp2_with fail
    refine (free_any T n at_ next A cap L K w7 HT7.out.blk HT7.out.ents (Nat.le_trans OK.out.len (by omega)) OK.out.fine hin HK.out).mono ?_
    rintro e w8 ⟨port, rfl, hfree, hblk, hg⟩
    have hT8 := HT7.out.turn hg hblk
    have e0 := (hg.block w.heap.size (lt_of_block D0.out) (fun e => by injection e with e; omega)).trans D0.out
    have e1 := (hg.block (w.heap.size + 1) (lt_of_block D1.out) (fun e => by injection e with e; omega)).trans D1.out
    have e2 := (hg.block (w.heap.size + 1 + 1) (lt_of_block D2.out) (fun e => by injection e with e; omega)).trans D2.out
    have HC8 := Lib.hid (HC7.out.trans (Chg.of_grown hg fun k e _ => .inl (by injection e with e; rw [← e]; exact HH.out.fT)))
    have HT8 := Lib.hid hT8
    have HFR := Lib.hid hfree
    obtain ⟨lS, s0, s1, s2, s3⟩ := spotAt_of e0
    obtain ⟨lD, d0, d1, d2, d3⟩ := spotAt_of e1
    have E0 := Lib.hid e0
    have E1 := Lib.hid e1
    have E2 := Lib.hid e2
    have m0 := tr_cell hT8.blk 0
    have m10 := tr_cell hT8.blk 10
    have lT := tr_lt hT8.blk
    simp only [List.getElem?_toArray, List.getElem?_cons_zero, List.getElem?_cons_succ] at m0 m10
    have mf : w8.frozen? ⟨T, 10, none⟩ = false := by simp [World.frozen?, hT8.blk, trObj]
    have hown8 := hT8.own
    clear t10 hT8 hfree hblk hg e0 e1 e2 HC7 HT7 D0 D1 D2 hfu hfu2
    go_wp2_with fail
    have hseen := fun W => seen_any d n.maps W
    unfold spotV at hseen
    generalize hdep : seenS d n.maps = dep at hseen
    have HD := Lib.hid hdep
    clear hdep
    obtain ⟨i0, hi0, hz0, hz1, hz2⟩ := info_parts Tryz.infoEnt
    have hdlt : ∀ w9, Below w8.drew.heap.size w8.drew w9 → w9.cell? ⟨T, 10, none⟩ = some (.slice A L.length cap) ∧ w9.cell? ⟨w.heap.size, 0, none⟩ = some (.bool s.six) ∧ w9.cell? ⟨w.heap.size, 1, none⟩ = some (.int .u64 s.hi) ∧ w9.cell? ⟨w.heap.size, 2, none⟩ = some (.int .u64 s.lo) ∧ w9.cell? ⟨w.heap.size, 3, none⟩ = some (.int .i64 s.port) ∧
        w9.ownsRow 0 97 11 (.slice A L.length cap) L.length (entsC L) ∧ T < w9.heap.size ∧ w.heap.size < w9.heap.size ∧ w9.frozen? ⟨T, 10, none⟩ = false := by
      intro w9 hb
      have hb' := drewB hb
      exact ⟨(hb'.cell (p := ⟨T, 10, none⟩) lT).trans m10, (hb'.cell (p := ⟨w.heap.size, 0, none⟩) lS).trans s0, (hb'.cell (p := ⟨w.heap.size, 1, none⟩) lS).trans s1, (hb'.cell (p := ⟨w.heap.size, 2, none⟩) lS).trans s2, (hb'.cell (p := ⟨w.heap.size, 3, none⟩) lS).trans s3,
        own_same hown8 fun k hk => hb'.block k (hown8.lt k hk).2, Nat.lt_of_lt_of_le lT hb'.size, Nat.lt_of_lt_of_le lS hb'.size, (hb'.frozen (p := ⟨T, 10, none⟩) lT).trans mf⟩
    have HDLT := Lib.hid hdlt
    have hTA : some T ≠ (Value.slice A L.length cap).ownBlock := fun c => HT8.out.hA c.symm
    clear hdlt
    go_region_law (first | (refine step_append_lies _ (by rfl) _ _ 85 (by rfl) 0 97 i0 _ 11 104 Tryz.underlying85 hi0 hz0 hz1 hz2 rfl (by omega) (.slice A L.length cap) L.length (entsC L) (by rfl) (hown9.alloc _) ⟨w9.heap.size, 0, none⟩ 1 1 [.bool s.six, .int .u64 s.hi, .int .u64 s.lo, .int .i64 s.port, .int .i64 port, .bool dep.six, .int .u64 dep.hi, .int .u64 dep.lo, .int .i64 dep.port, .int .i64 0, .slice none 0 0] (by rfl) (by rfl) (World.news_of_block (cs := #[.bool s.six, .int .u64 s.hi, .int .u64 s.lo, .int .i64 s.port, .int .i64 port, .bool dep.six, .int .u64 dep.hi, .int .u64 dep.lo, .int .i64 dep.port, .int .i64 0, .slice none 0 0]) (t := 97) (fr := (0, 0)) (heap_alloc_new w9 _)) (by simp [Value.oneCell']) (by omega) (by unfold maxLen; omega) (by omega) (Nat.zero_le _) (w9.heap.size + 1) (by simp) ?_; intro g2 cap2 w10 hown hgrow hat hlt; have z := appended_far2 hgrow lT9 hTA 10; rw [q10, mf9] at z) | (go_simp; go_at_call 36; refine (hseen _).mono ?_; rintro e w9 ⟨rfl, hb9⟩; obtain ⟨q10, q0, q1, q2, q3, hown9, lT9, lS9, mf9⟩ := HDLT.out w9 hb9))
    all_goals
      generalize hW : World.setCell _ _ _ = W11
      have hend := new_end (next := next) hF HT8.out HC8.out HD.out HFR.out E0.out E1.out E2.out hb9 hown hgrow hat hW
      clear hW hown hgrow hat hlt hb9 hown9 z q10 q0 q1 q2 q3
      go_wp2_with fail
      go_meet
      exact hend
  case rest =>
    obtain ⟨rfl, port, A', cap', G, hfree, hT7, hC7, hG, b0, b1, b2⟩ := hcut
    have HFR := Lib.hid hfree
    obtain ⟨L', hL'⟩ : ∃ L', L' = L ++ [newEnt s (seenS d n.maps) port] := ⟨_, rfl⟩
    obtain ⟨i, hiL⟩ : ∃ i : Nat, i = L.length := ⟨_, rfl⟩
    have HLI := Lib.hid (And.intro hL' hiL)
    rw [← hL'] at hT7
    rw [← hiL]
    have hi : i < L'.length := by rw [hiL, hL']; simp
    have hgd : L'.getD i noEnt = newEnt s (seenS d n.maps) port := by rw [hiL, hL']; simp
    have hsl : (L'.getD i noEnt).sent.length ≤ 100000 := by rw [hgd]; simp [newEnt]
    have HT7 := Lib.hid hT7
    have HC7 := Lib.hid hC7
    have D0 := Lib.hid b0
    have D1 := Lib.hid b1
    have D2 := Lib.hid b2
    clear hfree hT7 hC7 b0 b1 b2 hL' hiL
    obtain ⟨g, rfl⟩ : ∃ g, A' = some ⟨g, 0, none⟩ := by
      rcases HT7.out.own.2 with ⟨h1, h2⟩ | ⟨g, cap', cur, h1, _⟩
      · omega
      · injection h1 with h1; exact ⟨g, h1⟩
    have t10 := tr_cell HT7.out.blk 10
    have lT := tr_lt HT7.out.blk
    simp only [List.getElem?_toArray, List.getElem?_cons_zero, List.getElem?_cons_succ] at t10
    have hdi : decide ((i : Int) < (L'.length : Int)) = true := by simp; omega
    have hen : EntAt wc g (i * 11) (L'.getD i noEnt) := by
      obtain ⟨g', off', e1, _, e3⟩ := HT7.out.ents i hi
      injection e1 with e1
      injection e1 with e1 e2
      subst e1 e2
      simpa using e3
    have hfr : ∀ j, wc.frozen? ⟨g, j, none⟩ = false := fun j => World.ownsRow.frozenAt HT7.out.own j
    have f9 := hfr (i * 11 + 9)
    have c9 := hen.c9
    have hgl := (HT7.out.own.lt g rfl).2
    clear hfr hen
    go_wp2_with fail
    generalize hW : World.setCell _ _ _ = W8
    have hT8 : TrAt W8 G T n at_ (afterP n port) (some ⟨g, 0, none⟩) cap' (L'.set i { L'.getD i noEnt with last := at_ }) := by rw [← hW]; exact HT7.out.setLast hi
    have hC8 : Chg F w W8 := by rw [← hW]; exact HC7.out.set (hG g (HT7.out.fA g rfl)).2 _ _
    have hsz : W8.heap.size = wc.heap.size := by rw [← hW]; simp
    have hgb := (hG g (HT7.out.fA g rfl)).1
    have e0 : W8.heap[w.heap.size]? = some (.cells #[.bool s.six, .int .u64 s.hi, .int .u64 s.lo, .int .i64 s.port] 42 (0, 0)) := by rw [← hW, heap_set_other (by omega)]; exact D0.out
    have e1 : W8.heap[w.heap.size + 1]? = some (.cells #[.bool d.six, .int .u64 d.hi, .int .u64 d.lo, .int .i64 d.port] 42 (0, 0)) := by rw [← hW, heap_set_other (by omega)]; exact D1.out
    have e2 : W8.heap[w.heap.size + 1 + 1]? = some (.cells #[.bool false, .int .u64 0, .int .u64 0, .int .i64 0] 42 (0, 0)) := by rw [← hW, heap_set_other (by omega)]; exact D2.out
    clear hW f9 c9 t10 lT hgl HC7 HT7 D0 D1 D2
    have hel : (L'.set i { L'.getD i noEnt with last := at_ }).getD i noEnt = { L'.getD i noEnt with last := at_ } := by
      rw [List.getD_eq_getElem?_getD, List.getElem?_set_self hi]; rfl
    have hi8 : i < (L'.set i { L'.getD i noEnt with last := at_ }).length := by simpa using hi
    have hsn : W8.ownsRow 0 42 4 (.slice (L'.getD i noEnt).sA (L'.getD i noEnt).sent.length (L'.getD i noEnt).scap) (L'.getD i noEnt).sent.length (spotsC (L'.getD i noEnt).sent) := by
      have := hT8.sent _ (getD_mem hi8)
      rw [hel] at this
      exact this
    have hc10 : W8.cell? ⟨g, i * 11 + 10, none⟩ = some (.slice (L'.getD i noEnt).sA (L'.getD i noEnt).sent.length (L'.getD i noEnt).scap) := by
      obtain ⟨g', off', e1, _, e3⟩ := hT8.ents i hi8
      injection e1 with e1
      injection e1 with e1 e2
      subst e1 e2
      rw [hel] at e3
      simpa using e3.c10
    have hc4 : W8.cell? ⟨g, i * 11 + 4, none⟩ = some (.int .i64 (L'.getD i noEnt).port) := by
      obtain ⟨g', off', e1, _, e3⟩ := hT8.ents i hi8
      injection e1 with e1
      injection e1 with e1 e2
      subst e1 e2
      rw [hel] at e3
      simpa using e3.c4
    have hhas := hasSpot_any (L'.getD i noEnt).sA (L'.getD i noEnt).scap (L'.getD i noEnt).sent d W8.drew ((spots_at hsn).below (Below.refl _ _).drew) (Nat.le_trans hsl (by omega))
    obtain ⟨lD, d0, d1, d2, d3⟩ := spotAt_of e1
    have HT8 := Lib.hid hT8
    have HC8 := Lib.hid hC8
    have E2 := Lib.hid e2
    have E1 := Lib.hid e1
    have HSN := Lib.hid hsn
    have HEL := Lib.hid hel
    have hgl := (hT8.own.lt g rfl).2
    have hc9 := hT8.blk
    clear hT8 hC8 e0 e1 e2 hsn hel hsz
    have hsent : sentOf (L'.getD i noEnt) d = sentOf (L'.getD i noEnt) d := rfl
    conv at hsent => rhs; unfold sentOf
    have hL8 : ∀ sA scap sent, (L'.set i { L'.getD i noEnt with last := at_ }).set i { (L'.set i { L'.getD i noEnt with last := at_ }).getD i noEnt with sA := sA, scap := scap, sent := sent } = L'.set i { L'.getD i noEnt with last := at_, sA := sA, scap := scap, sent := sent } := by
      intro sA scap sent
      rw [HEL.out, List.set_set]
    have HL8 := Lib.hid hL8
    clear hL8
    generalize hee : L'.getD i noEnt = ee at *
    have HEE : Hid (newEnt s (seenS d n.maps) port = ee) := Lib.hid hgd.symm
    clear hgd hee
    cases hq : ee.sent.any (fun x => d.beq x)
    · rw [hq] at hhas hsent
      go_region_held3 (fun w' => w'.cell? ⟨g, i * 11 + 10, none⟩ = some (.slice ee.sA ee.sent.length ee.scap) ∧ w'.cell? ⟨w.heap.size + 1, 0, none⟩ = some (.bool d.six) ∧ w'.cell? ⟨w.heap.size + 1, 1, none⟩ = some (.int .u64 d.hi) ∧ w'.cell? ⟨w.heap.size + 1, 2, none⟩ = some (.int .u64 d.lo) ∧ w'.cell? ⟨w.heap.size + 1, 3, none⟩ = some (.int .i64 d.port))
        ((repeat' apply And.intro) <;> (repeat (first | with_reducible assumption | rw [cell_drew] | rw [Below.cell hb1 (by simp; omega)])))
        ((go_at_call 37; refine hhas.mono ?_; rintro e w9 ⟨rfl, hb1⟩))
      have hb9 := drewB hb1
      have hT9 := HT8.out.below hb9
      have e1 := (hb9.block (w.heap.size + 1) lD).trans E1.out
      have e2 := (hb9.block (w.heap.size + 1 + 1) (lt_of_block E2.out)).trans E2.out
      have hsn9 := own_same HSN.out fun k hk => hb9.block k (HSN.out.lt k hk).2
      have hc10' := (hb9.cell (p := ⟨g, i * 11 + 10, none⟩) hgl).trans hc10
      have hc4' := (hb9.cell (p := ⟨g, i * 11 + 4, none⟩) hgl).trans hc4
      have hgl9 := Nat.lt_of_lt_of_le hgl hb9.size
      have HC9 := Lib.hid (HC8.out.trans (Chg.of_below hb9))
      have HT9 := Lib.hid hT9
      have F2 := Lib.hid e2
      obtain ⟨lD9, x0, x1, x2, x3⟩ := spotAt_of e1
      have hsT : (svE ee).ownBlock ≠ some g := fun c => (hT9.hS _ (getD_mem hi8)).2 g (by rw [HEL.out]; exact c) rfl
      have hsD : (svE ee).ownBlock ≠ some (w.heap.size + 1) := fun c => (hG _ (hT9.fS _ (getD_mem hi8) (w.heap.size + 1) (by rw [HEL.out]; exact c))).1.2.1 rfl
      have hsR : (svE ee).ownBlock ≠ some (w.heap.size + 1 + 1) := fun c => (hG _ (hT9.fS _ (getD_mem hi8) (w.heap.size + 1 + 1) (by rw [HEL.out]; exact c))).1.2.2 rfl
      have hsF : ∀ k, (svE ee).ownBlock = some k → Plus F w k := fun k c => (hG _ (hT9.fS _ (getD_mem hi8) k (by rw [HEL.out]; exact c))).2
      have hf10 : w9.frozen? ⟨g, i * 11 + 10, none⟩ = false := World.ownsRow.frozenAt hT9.own _
      clear hb1 hb9 hT9 e1 e2 hc10 hc4 d0 d1 d2 d3 hhas HT8 HC8 E1 E2 HSN hc9
      go_wp2_with fail
      obtain ⟨i0, hi0, hz0, hz1, hz2⟩ := info_parts Tryz.infoSpot
      have n0 := World.new_ne w9 _ x0
      have n4 := World.new_ne w9 _ hc10'
      go_region_law ((refine step_append_lies _ (by rfl) _ _ 95 (by rfl) 0 42 i0 _ 4 32 Tryz.underlying95 hi0 hz0 hz1 hz2 rfl (by omega) (.slice ee.sA ee.sent.length ee.scap) ee.sent.length (spotsC ee.sent) (by rfl) ((hsn9.alloc _).drew) ⟨w9.heap.size, 0, none⟩ 1 1 [.bool d.six, .int .u64 d.hi, .int .u64 d.lo, .int .i64 d.port] (by rfl) (by rfl) (World.news_of_block (cs := #[.bool d.six, .int .u64 d.hi, .int .u64 d.lo, .int .i64 d.port]) (t := 42) (fr := (0, 0)) (heap_alloc_new w9 _)) (by simp [Value.oneCell']) (by omega) (by unfold maxLen; omega) (by omega) (Nat.zero_le _) (w9.heap.size + 1) (by simp) ?_; intro g2 cap2 w10 hown hgrow hat hlt; have z := appended_far hgrow hgl9 (Ne.symm hsT) (i * 11 + 10); rw [hc10', hf10] at z))
      all_goals
        generalize hW : World.setCell _ _ _ = W11
        have hgr9 := grown_box hgrow
        have hlen1 : (ee.sent ++ [d]).length = ee.sent.length + 1 := by simp
        have hset := HT9.out.setSent (i := i) (by simpa using hi) (some ⟨g2, 0, none⟩) cap2 (ee.sent ++ [d]) (by rw [HEL.out]; exact hgr9) (by rw [hlen1, spotsC_snoc]; exact hown) (by
          intro k hk
          injection hk with hk
          rw [HEL.out]
          rcases hat with c | c
          · left; rw [← hk]; exact c
          · right; simp only at hk; omega)
        rw [hlen1, hW, HL8.out] at hset
        obtain ⟨sA1, hsA1⟩ : ∃ x, x = (some ⟨g2, 0, none⟩ : Option Addr) := ⟨_, rfl⟩
        obtain ⟨scap1, hscap1⟩ : ∃ x, x = cap2 := ⟨_, rfl⟩
        rw [← hsA1, ← hscap1, show ee.sent ++ [d] = sentOf ee d by rw [hsent]; rfl] at hset
        have hsz9 := HC9.out.size
        have hT11 := hset
        have hG2 : ∀ k, Plus G w9 k → k ≠ w.heap.size + 1 + 1 ∧ Plus F w k := by
          rintro k (c | c)
          · exact ⟨(hG k c).1.2.2, (hG k c).2⟩
          · exact ⟨by have := lt_of_block F2.out; omega, .inr (by omega)⟩
        have hC11 : Chg F w W11 := by
          rw [← hW]
          exact (HC9.out.trans (Chg.of_grown hgr9 fun k e _ => hsF k e)).set (hG g (HT9.out.fA g rfl)).2 _ _
        have hr2 : W11.heap[w.heap.size + 1 + 1]? = some (.cells #[.bool false, .int .u64 0, .int .u64 0, .int .i64 0] 42 (0, 0)) := by
          rw [← hW, heap_set_other (by omega)]
          exact (hgr9.block _ (lt_of_block F2.out) (fun c => hsR c.symm)).trans F2.out
        clear hset
        generalize Plus G w9 = G2 at hT11 hG2
        clear hW hown hgrow hat hlt hgr9 hlen1 hsA1 hscap1 hc10' hc4' x0 x1 x2 x3 z hsn9 HT9 HC9 F2 hf10 lD9 hgl9 n0 n4
        -- region 24: what is handed back
        have k4 : W11.cell? ⟨g, i * 11 + 4, none⟩ = some (.int .i64 ee.port) := by
          obtain ⟨g', off', e1, _, e3⟩ := hT11.ents i (by simpa using hi)
          injection e1 with e1
          injection e1 with e1 e2
          subst e1 e2
          have e5 := e3.c4
          rw [show (L'.set i { ee with last := at_, sA := sA1, scap := scap1, sent := sentOf ee d }).getD i noEnt = { ee with last := at_, sA := sA1, scap := scap1, sent := sentOf ee d } by rw [List.getD_eq_getElem?_getD, List.getElem?_set_self hi]; rfl] at e5
          simpa using e5
        have k5 := tr_cell hT11.blk 5
        have k6 := tr_cell hT11.blk 6
        have k7 := tr_cell hT11.blk 7
        simp only [List.getElem?_toArray, List.getElem?_cons_zero, List.getElem?_cons_succ] at k5 k6 k7
        have r0 := cell_of hr2 0
        have r1 := cell_of hr2 1
        have r2 := cell_of hr2 2
        have r3 := cell_of hr2 3
        simp only [List.getElem?_toArray, List.getElem?_cons_zero, List.getElem?_cons_succ] at r0 r1 r2 r3
        have rf : ∀ j, W11.frozen? ⟨w.heap.size + 1 + 1, j, none⟩ = false := fun j => by simp [World.frozen?, hr2]
        have rf0 := rf 0
        have rf1 := rf 1
        have rf2 := rf 2
        have rf3 := rf 3
        have lR := lt_of_block hr2
        have HT11 := Lib.hid hT11
        have HC11 := Lib.hid hC11
        have HR2 := Lib.hid hr2
        clear hT11 hC11 hr2 rf
        go_wp2_with fail
        go_region_held3 (fun w' => w'.cell? ⟨g, i * 11 + 4, none⟩ = some (.int .i64 ee.port) ∧ w'.cell? ⟨T, 5, none⟩ = some (.bool n.six) ∧ w'.cell? ⟨T, 6, none⟩ = some (.int .u64 n.hi) ∧ w'.cell? ⟨T, 7, none⟩ = some (.int .u64 n.lo)) ((repeat' apply And.intro) <;> (repeat (first | with_reducible assumption | rw [cell_drew] | rw [World.cell?_setCell_far _ _ _ _ (by simp; omega)]))) (fail)
        generalize hW : World.setCell _ _ _ = W12
        obtain ⟨hr3, hb12⟩ := set4 HR2.out (Nat.le_refl _) hW
        have hoth : ∀ k, k ≠ w.heap.size + 1 + 1 → W12.heap[k]? = W11.heap[k]? := fun k hk => by rw [← hW, heap_set_other hk, heap_set_other hk, heap_set_other hk, heap_set_other hk]
        have y0 := cell_of hr3 0
        have y1 := cell_of hr3 1
        have y2 := cell_of hr3 2
        have y3 := cell_of hr3 3
        simp only [List.getElem?_toArray, List.getElem?_cons_zero, List.getElem?_cons_succ] at y0 y1 y2 y3
        have HFIN := Lib.hid (show Chg F w W12.drew ∧ TrAt W12.drew (Plus F w) T n at_ (afterP n port) (some ⟨g, 0, none⟩) cap' (L'.set i { ee with last := at_, sA := sA1, scap := scap1, sent := sentOf ee d }) from
          ⟨(HC11.out.trans (Chg.mk hb12.os hb12.tape hb12.output hb12.size fun k _ hn => hoth k (fun e => hn (.inr (by omega))))).drew, HT11.out.keep (fun k hk _ => hoth k (hG2 k hk).1) fun k hk => (hG2 k hk).2⟩)
        clear hW hb12 hoth HT11 HC11 HR2 k4 k5 k6 k7 r0 r1 r2 r3 rf0 rf1 rf2 rf3 hr3
        go_wp2_with fail
        refine bodyPost_ret (v := .tuple #[.agg #[.bool n.six, .int .u64 n.hi, .int .u64 n.lo, .int .i64 ee.port], .int .i64 0]) (by simp [results, Tryz.results13, go_sem, y0, y1, y2, y3]) rfl ?_
        exact new_fin HLI.out HEE.out HFR.out HFIN.out.1 HFIN.out.2
    · exact absurd hq (by rw [← HEE.out]; simp [newEnt])
end Go.Proofs.YtphjgjcbolmdiaaGreatDoor
