/- Packets as bytes: readSix. Packets as bytes: readPart (printed by gen_pxn.py). -/
import Derived.Test.YtfakfhbcpldeoaaGreatDoorPxK
namespace Go.Proofs.YtfakfhbcpldeoaaGreatDoor
open Go.RowKit Go.Hw

theorem allZ_sub {b : List UInt8} (h : 4 ≤ b.length) : allZ (subB b 1 4) = (bytB b 1 == 0 && bytB b 2 == 0 && bytB b 3 == 0) := by
  obtain ⟨b0, t0, rfl, l0⟩ := cons_of (n := 3) h
  obtain ⟨b1, t1, rfl, l1⟩ := cons_of l0
  obtain ⟨b2, t2, rfl, l2⟩ := cons_of l1
  obtain ⟨b3, t3, rfl, l3⟩ := cons_of (n := 0) (by omega : 0 + 1 ≤ t2.length)
  rw [byt0, byt0, byt0]
  show List.all [b1, b2, b3] (fun c => c == 0) = _
  simp only [List.all_cons, List.all_nil, Bool.and_true, Bool.and_assoc]
  rfl
theorem ok6_eq {b : List UInt8} (h : 40 ≤ b.length) : ok6 b = (takeN (subB b 4 6) == b.length - 40 && allZ (subB b 1 4)) := by
  rw [allZ_sub (by omega)]
  unfold ok6
  rw [decide_eq_true h, Bool.true_and]
/-- What the first bytes of a packet hand back. -/
def HeadOut (P g n : Nat) (w : World) (ok : Bool) (k : Nat) (q : Pk) (b : List UInt8) (e : Ending) (w' : World) : Prop :=
  (ok = true → ∃ off' cap', e = .returned (.tuple #[.slice (some ⟨g, off', none⟩) (n - k) cap', .int .i64 0]) ∧ bAt w' (some ⟨g, off', none⟩) (b.drop k) ∧ n - k ≤ cap' ∧ w'.heap[P]? = some (.cells (pkA q) 31 (0, 0))) ∧
  (ok = false → ∃ c : Int, c ≠ 0 ∧ e = .returned (.tuple #[.slice none 0 0, .int .i64 c])) ∧ Rchg (fun k => k = P) w w'
theorem FrOut.head {P g n cap k : Nat} {w w' : World} {ok : Bool} {q : Pk} {e : Ending} {b : List UInt8} (h : FrOut P g 0 n cap w ok k q e w') (hb : bAt w (some ⟨g, 0, none⟩) b) (hgP : g ≠ P) (hc : n ≤ cap) : HeadOut P g n w ok k q b e w' := by
  obtain ⟨h1, h2, h3⟩ := h
  refine ⟨fun c => ?_, h2, h3⟩
  obtain ⟨e1, e2⟩ := h1 c
  exact ⟨_, _, e1, by have := (hb.rc h3 hgP).drop k; exact this, by omega, e2⟩
def raw6 (b : List UInt8) : Pk := { pk6 b with f := { (pk6 b).f with proto := bytB b 6 } }
theorem pk6_58 {b : List UInt8} (h : bytB b 6 = 58) : (pkA (raw6 b)).setIfInBounds 7 (.int .i64 1) = pkA (pk6 b) := by
  have e : (pk6 b).f.proto = 1 := by show prot6 (bytB b 6) = 1; rw [h]; rfl
  unfold pkA
  rw [e]
  rfl
theorem pk6_1 {b : List UInt8} (h : bytB b 6 = 1) : (pkA (raw6 b)).setIfInBounds 7 (.int .i64 0) = pkA (pk6 b) := by
  have e : (pk6 b).f.proto = 0 := by show prot6 (bytB b 6) = 0; rw [h]; rfl
  unfold pkA
  rw [e]
  rfl
theorem pk6_n {b : List UInt8} (h : bytB b 6 ≠ 58) (h1 : bytB b 6 ≠ 1) : pkA (raw6 b) = pkA (pk6 b) := by
  have e : (pk6 b).f.proto = bytB b 6 := by show prot6 (bytB b 6) = _; unfold prot6; rw [if_neg h, if_neg h1]
  have e2 : (raw6 b).f.proto = bytB b 6 := rfl
  unfold pkA
  rw [e, e2]
  rfl
set_option maxRecDepth 100000 in
set_option maxHeartbeats 4000000 in
theorem readSix_any (P g n cap : Nat) (b : List UInt8) (w : World) (hb : bAt w (some ⟨g, 0, none⟩) b) (hl : b.length = n) (hn : 20 ≤ n) (hc : n ≤ cap) (hs : n ≤ 5000) (hP : w.heap[P]? = some (.cells (pkA noPk) 31 (0, 0))) (hgP : g ≠ P) :
    Calls Tryz.prog 19 #[.pointer (some ⟨P, 0, none⟩), .slice (some ⟨g, 0, none⟩) n cap] w (HeadOut P g n w (ok6 b) 40 (pk6 b) b) := by
  by_cases h40 : n < 40
  · have d0 : decide ((n : Int) < 40) = true := by simp; omega
    have HF : Hid (ok6 b = false) := Lib.hid (by unfold ok6; rw [decide_eq_false (by omega)]; rfl)
    clear hb hP
    go_enter Tryz.func19, Tryz.ntmps19
    go_wp2_with fail
    go_ret2
    exact ⟨fun c => absurd (c.symm.trans HF.out) (by decide), fun _ => ⟨3, by decide, rfl⟩, ⟨rfl, rfl, rfl, Nat.le_refl _, fun _ _ _ => rfl⟩⟩
  · have d0 : decide ((n : Int) < 40) = false := by simp; omega
    have HOK := Lib.hid (ok6_eq (b := b) (by omega))
    have hta := take_sub g 0 (cap - 4) b 4 2 w hb (by omega) (by omega)
    have hz := zeros_any (some ⟨g, 1, none⟩) (cap - 1) (subB b 1 4) w (by unfold subB; have := (hb.drop 1).take 3; simpa using this) (by simp [subB]; omega)
    rw [show (subB b 1 4).length = 3 from by simp [subB]; omega] at hz
    have hul : takeN (subB b 4 6) < 65536 := by
      have h1 := takeN_lt (subB b 4 6)
      have h2 : (subB b 4 6).length = 2 := by simp [subB]; omega
      rw [h2] at h1
      omega
    have hta : Calls Tryz.prog 23 #[.slice (some ⟨g, 4, none⟩) 2 (cap - 4)] w fun e w' => e = .returned (.int .u64 (takeN (subB b 4 6))) ∧ w = w' := hta
    generalize ht1 : takeN (subB b 4 6) = uv at hta hul
    have HU := Lib.hid ht1
    rw [ht1] at HOK
    generalize hzz : allZ (subB b 1 4) = zb at hz
    rw [hzz] at HOK
    clear ht1 hzz
    have s1 : IntKind.i64.wrap (uv : Int) = (uv : Int) := IntWalk.i64_in _ (by omega)
    have s2 : IntKind.i64.wrap ((n : Int) - 40) = (n : Int) - 40 := IntWalk.i64_in _ (by omega)
    have d4 : (4 : Int) ≤ (cap : Int) := by omega
    have d6 : (6 : Int) ≤ (cap : Int) := by omega
    have nc1 : ¬ cap = 1 := by omega
    have nc4 : ¬ cap = 4 := by omega
    have d1 : (1 : Int) ≤ (cap : Int) := by omega
    have HB := Lib.hid hb
    have HP := Lib.hid hP
    clear hb hP
    by_cases hun : uv = n - 40
    · have e1 : ((uv : Int) != (n : Int) - 40) = false := by simp; omega
      have HUN := Lib.hid hun
      clear hun
      cases zb
      · have HF : Hid (ok6 b = false) := Lib.hid (by rw [HOK.out]; simp)
        go_enter Tryz.func19, Tryz.ntmps19
        go_wp2_with fail
        refine hta.mono ?_
        rintro e w9 ⟨rfl, rfl⟩
        go_wp2_with fail
        refine hz.mono ?_
        rintro e w9 ⟨rfl, rfl⟩
        clear hta hz
        go_wp2_with fail
        go_ret2
        exact ⟨fun c => absurd (c.symm.trans HF.out) (by decide), fun _ => ⟨3, by decide, rfl⟩, ⟨rfl, rfl, rfl, Nat.le_refl _, fun _ _ _ => rfl⟩⟩
      · have HT : Hid (ok6 b = true) := Lib.hid (by rw [HOK.out, HUN.out]; simp; omega)
        go_enter Tryz.func19, Tryz.ntmps19
        go_wp2_with fail
        refine hta.mono ?_
        rintro e w9 ⟨rfl, rfl⟩
        go_wp2_with fail
        refine hz.mono ?_
        rintro e w9 ⟨rfl, rfl⟩
        clear hta hz
        obtain ⟨W4, hW4⟩ : ∃ W4 : World, W4 = w := ⟨_, rfl⟩
        have HW4 := Lib.hid hW4
        have hP4 : W4.heap[P]? = some (.cells (pkA noPk) 31 (0, 0)) := by rw [hW4]; exact HP.out
        have HB5 : Hid (bAt W4 (some ⟨g, 0, none⟩) b) := Lib.hid (by rw [hW4]; exact HB.out)
        have HG4 : Hid (GM W4 P 31 (pkA (raw6 b)) [0, 1, 2, 3, 4, 5, 6, 7] W4.drew) := Lib.hid (GM.start hP4 rfl (fun i hi => by
          simp only [List.mem_cons, List.mem_nil_iff, or_false, not_or] at hi
          rcases i with _ | _ | _ | _ | _ | _ | _ | _ | _ | _ | _ | _ | _ | _ | _ | _ | _ | _ | _ | i <;> first | rfl | (exfalso; omega)))
        rw [← hW4]
        obtain ⟨y7, hy7⟩ : ∃ y, b.getD 7 0 = y := ⟨_, rfl⟩
        obtain ⟨y6, hy6⟩ : ∃ y, b.getD 6 0 = y := ⟨_, rfl⟩
        have sw7 : IntKind.i64.wrap (y7.toNat : Int) = (y7.toNat : Int) := IntWalk.i64_in _ (by have := UInt8.toNat_lt y7; omega)
        have sw6 : IntKind.i64.wrap (y6.toNat : Int) = (y6.toNat : Int) := IntWalk.i64_in _ (by have := UInt8.toNat_lt y6; omega)
        have HY7 := Lib.hid hy7
        have HY6 := Lib.hid hy6
        have T0 : Hid ((pkA (raw6 b))[0]? = some (.bool true)) := Lib.hid rfl
        have T1 : Hid ((pkA (raw6 b))[1]? = some (.int .u64 (takeN (subB b 8 16)))) := Lib.hid rfl
        have T2 : Hid ((pkA (raw6 b))[2]? = some (.int .u64 (takeN (subB b 16 24)))) := Lib.hid rfl
        have T3 : Hid ((pkA (raw6 b))[3]? = some (.bool true)) := Lib.hid rfl
        have T4 : Hid ((pkA (raw6 b))[4]? = some (.int .u64 (takeN (subB b 24 32)))) := Lib.hid rfl
        have T5 : Hid ((pkA (raw6 b))[5]? = some (.int .u64 (takeN (subB b 32 40)))) := Lib.hid rfl
        have T6 : Hid ((pkA (raw6 b))[6]? = some (.int .i64 y7.toNat)) := Lib.hid (by rw [← hy7]; rfl)
        have T7 : Hid ((pkA (raw6 b))[7]? = some (.int .i64 y6.toNat)) := Lib.hid (by rw [← hy6]; rfl)
        have d24 : (24 : Int) ≤ (cap : Int) := by omega
        have d40 : (40 : Int) ≤ (cap : Int) := by omega
        have d8 : 8 ≤ cap := by omega
        have d24n : 24 ≤ cap := by omega
        have m7 : (7 : Int) < (n : Int) := by omega
        have m6 : (6 : Int) < (n : Int) := by omega
        have nc8 : ¬ cap = 8 := by omega
        have nc24 : ¬ cap = 24 := by omega
        clear hy6 hy7 hP4 hW4
        go_upto_region 3 with (fail)
        go_cut [] from 25 to 50 (fun wc => wc.heap[P]? = some (.cells (pkA (raw6 b)) 31 (0, 0)) ∧ Rchg (fun k => k = P) W4 wc)
        case first =>
          -- @R3 BEGIN
          refine wp_region_drawn 29 (fun f' => ⟨#[.pointer (some ⟨P, 0, none⟩), .slice (some ⟨g, 0, none⟩) n cap, undef, undef, .slice none 0 0, .int .i64 0, .slice (some ⟨g, 0, none⟩) n cap, .int .i64 n, .bool false, .bool false, .slice (some ⟨g, 0, none⟩) n cap, .slice (some ⟨g, 4, none⟩) 2 (cap - 4), .int .u64 uv, .int .i64 uv, .slice (some ⟨g, 0, none⟩) n cap, .int .i64 n, .int .i64 (n - 40), .bool false, .bool false, .bool false, .slice (some ⟨g, 0, none⟩) n cap, .slice (some ⟨g, 1, none⟩) 3 (cap - 1), .bool true, .bool false, .bool false, f' 0, f' 1, f' 2, f' 3, f' 4, f' 5, f' 6, f' 7, f' 8, f' 9, f' 10, f' 11, f' 12, f' 13, f' 14, f' 15, f' 16, f' 17, f' 18, f' 19, f' 21, f' 22, f' 24, f' 25, f' 27, f' 28, undef, undef, undef, undef, undef, undef, undef, undef, undef, undef, undef, undef, undef, undef, undef, undef], []⟩) (VL [VIs (.pointer (some ⟨P, 0, none⟩)), VIs (.pointer (some ⟨P, 0, none⟩)), VIs (.pointer (some ⟨P, 0, none⟩)), VIs (.pointer (some ⟨P, 0, none⟩)), VIs (.slice (some ⟨g, 0, none⟩) n cap), VIs (.pointer (some ⟨g, 7, none⟩)), VIs (.int .u8 y7.toNat), VIs (.int .i64 y7.toNat), VIs (.slice (some ⟨g, 0, none⟩) n cap), VIs (.pointer (some ⟨g, 6, none⟩)), VIs (.int .u8 y6.toNat), VIs (.int .i64 y6.toNat), VIs (.slice (some ⟨g, 0, none⟩) n cap), VIs (.slice (some ⟨g, 8, none⟩) 16 (cap - 8)), VIs (.agg #[.bool true, .int .u64 (takeN (subB b 8 16)), .int .u64 (takeN (subB b 16 24))]), VIs (.slice (some ⟨g, 0, none⟩) n cap), VIs (.slice (some ⟨g, 24, none⟩) 16 (cap - 24)), VIs (.agg #[.bool true, .int .u64 (takeN (subB b 24 32)), .int .u64 (takeN (subB b 32 40))]), VIs (.pointer (some ⟨P, 0, none⟩)), VIs (.pointer (some ⟨P, 6, none⟩)), VM P (pkA (raw6 b)) [6], VIs (.pointer (some ⟨P, 0, none⟩)), VIs (.pointer (some ⟨P, 7, none⟩)), VM P (pkA (raw6 b)) [7], VIs (.pointer (some ⟨P, 0, none⟩)), VIs (.pointer (some ⟨P, 0, none⟩)), VM P (pkA (raw6 b)) [0, 1, 2], VIs (.pointer (some ⟨P, 0, none⟩)), VIs (.pointer (some ⟨P, 3, none⟩))]) (fun _ w' => GM W4 P 31 (pkA (raw6 b)) [0, 1, 2, 3, 4, 5, 6, 7] w') (GrM P (pkA (raw6 b))) (fun _ => undef) (show Tryz.prog.follows .mixedOrders = true from by kernel_rfl) (by kernel_rfl) ?_ ?_ ?_ (HG4.out)
          · exact fun i w w' v h hg => VL.stabG (Gr := GrM P (pkA (raw6 b))) (by
              intro q hq w w' v hv hg
              simp only [List.mem_cons, List.mem_nil_iff, or_false] at hq
              rcases hq with rfl | rfl | rfl | rfl | rfl | rfl | rfl | rfl | rfl | rfl | rfl | rfl | rfl | rfl | rfl | rfl | rfl | rfl | rfl | rfl | rfl | rfl | rfl | rfl | rfl | rfl | rfl | rfl | rfl <;> first | exact hv | (exact VM.stab hv hg)) i w w' v h hg
          · intro i o hi ho f' w' k hk hG hd
            have hbw := HB5.out.rc hG.choose_spec.2.2.2 hgP
            have q6 := hbw.get 6 (by omega)
            rw [HY6.out] at q6
            have c6 : w'.cell? ⟨g, 6, none⟩ = some (.int .u8 y6.toNat) := q6.1
            have q7 := hbw.get 7 (by omega)
            rw [HY7.out] at q7
            have c7 : w'.cell? ⟨g, 7, none⟩ = some (.int .u8 y7.toNat) := q7.1
            have gl : g < w'.heap.size := q6.2
            obtain ⟨⟨x0, k0⟩, g0'⟩ := hG.cell 0 (by show 0 < 19; omega)
            obtain ⟨⟨x1, k1⟩, g1'⟩ := hG.cell 1 (by show 1 < 19; omega)
            obtain ⟨⟨x2, k2⟩, g2'⟩ := hG.cell 2 (by show 2 < 19; omega)
            obtain ⟨⟨x3, k3⟩, g3'⟩ := hG.cell 3 (by show 3 < 19; omega)
            obtain ⟨⟨x4, k4⟩, g4'⟩ := hG.cell 4 (by show 4 < 19; omega)
            obtain ⟨⟨x5, k5⟩, g5'⟩ := hG.cell 5 (by show 5 < 19; omega)
            obtain ⟨⟨x6, k6⟩, g6'⟩ := hG.cell 6 (by show 6 < 19; omega)
            obtain ⟨⟨x7, k7⟩, g7'⟩ := hG.cell 7 (by show 7 < 19; omega)
            have HG := Lib.hid hG
            have HBW := Lib.hid hbw
            clear hG hbw q6 q7
            have hcase : i = 0 ∨ i = 1 ∨ i = 2 ∨ i = 3 ∨ i = 4 ∨ i = 5 ∨ i = 6 ∨ i = 7 ∨ i = 8 ∨ i = 9 ∨ i = 10 ∨ i = 11 ∨ i = 12 ∨ i = 13 ∨ i = 14 ∨ i = 15 ∨ i = 16 ∨ i = 17 ∨ i = 18 ∨ i = 19 ∨ i = 20 ∨ i = 21 ∨ i = 22 ∨ i = 23 ∨ i = 24 ∨ i = 25 ∨ i = 26 ∨ i = 27 ∨ i = 28 := by omega
            rcases hcase with rfl | rfl | rfl | rfl | rfl | rfl | rfl | rfl | rfl | rfl | rfl | rfl | rfl | rfl | rfl | rfl | rfl | rfl | rfl | rfl | rfl | rfl | rfl | rfl | rfl | rfl | rfl | rfl | rfl <;> (replace ho := Option.some.inj ho; subst ho)
            · unfold Oper.wp
              go_simp
              exact ⟨_, (by first | (simp [upd]; done) | (simp [upd]; omega)), rfl, HG.out, GrM.refl _ _ _⟩
            · unfold Oper.wp
              go_simp
              exact ⟨_, (by first | (simp [upd]; done) | (simp [upd]; omega)), rfl, HG.out, GrM.refl _ _ _⟩
            · unfold Oper.wp
              go_simp
              exact ⟨_, (by first | (simp [upd]; done) | (simp [upd]; omega)), rfl, HG.out, GrM.refl _ _ _⟩
            · unfold Oper.wp
              go_simp
              exact ⟨_, (by first | (simp [upd]; done) | (simp [upd]; omega)), rfl, HG.out, GrM.refl _ _ _⟩
            · unfold Oper.wp
              go_simp
              exact ⟨_, (by first | (simp [upd]; done) | (simp [upd]; omega)), rfl, HG.out, GrM.refl _ _ _⟩
            · have e4 : f' 4 = _ := hd ⟨4, .data⟩ (by simp) rfl
              unfold Oper.wp
              go_simp
              exact ⟨_, (by first | (simp [upd, e4]; done) | (simp [upd, e4]; omega)), rfl, HG.out, GrM.refl _ _ _⟩
            · have e5 : f' 5 = _ := hd ⟨5, .data⟩ (by simp) rfl
              unfold Oper.wp
              go_simp
              exact ⟨_, (by first | (simp [upd, e5]; done) | (simp [upd, e5]; omega)), rfl, HG.out, GrM.refl _ _ _⟩
            · have e6 : f' 6 = _ := hd ⟨6, .data⟩ (by simp) rfl
              unfold Oper.wp
              go_simp
              exact ⟨_, (by first | (simp [upd, e6]; done) | (simp [upd, e6]; omega)), rfl, HG.out, GrM.refl _ _ _⟩
            · unfold Oper.wp
              go_simp
              exact ⟨_, (by first | (simp [upd]; done) | (simp [upd]; omega)), rfl, HG.out, GrM.refl _ _ _⟩
            · have e8 : f' 8 = _ := hd ⟨8, .data⟩ (by simp) rfl
              unfold Oper.wp
              go_simp
              exact ⟨_, (by first | (simp [upd, e8]; done) | (simp [upd, e8]; omega)), rfl, HG.out, GrM.refl _ _ _⟩
            · have e9 : f' 9 = _ := hd ⟨9, .data⟩ (by simp) rfl
              unfold Oper.wp
              go_simp
              exact ⟨_, (by first | (simp [upd, e9]; done) | (simp [upd, e9]; omega)), rfl, HG.out, GrM.refl _ _ _⟩
            · have e10 : f' 10 = _ := hd ⟨10, .data⟩ (by simp) rfl
              unfold Oper.wp
              go_simp
              exact ⟨_, (by first | (simp [upd, e10]; done) | (simp [upd, e10]; omega)), rfl, HG.out, GrM.refl _ _ _⟩
            · unfold Oper.wp
              go_simp
              exact ⟨_, (by first | (simp [upd]; done) | (simp [upd]; omega)), rfl, HG.out, GrM.refl _ _ _⟩
            · have e12 : f' 12 = _ := hd ⟨12, .data⟩ (by simp) rfl
              unfold Oper.wp
              go_simp
              exact ⟨_, (by simp [upd, e12]), rfl, HG.out, GrM.refl _ _ _⟩
            · have e13 : f' 13 = _ := hd ⟨13, .data⟩ (by simp) rfl
              unfold Oper.wp
              go_simp
              refine (takeAddr16 g 0 (cap - 8) b 8 w' HBW.out (by omega) (by omega)).mono ?_
              rintro e w9 ⟨rfl, hb9⟩
              exact ⟨_, (by simp [upd, e13]), rfl, (HG.out.bl hb9).1, (HG.out.bl hb9).2⟩
            · unfold Oper.wp
              go_simp
              exact ⟨_, (by first | (simp [upd]; done) | (simp [upd]; omega)), rfl, HG.out, GrM.refl _ _ _⟩
            · have e15 : f' 15 = _ := hd ⟨15, .data⟩ (by simp) rfl
              unfold Oper.wp
              go_simp
              exact ⟨_, (by simp [upd, e15]), rfl, HG.out, GrM.refl _ _ _⟩
            · have e16 : f' 16 = _ := hd ⟨16, .data⟩ (by simp) rfl
              unfold Oper.wp
              go_simp
              refine (takeAddr16 g 0 (cap - 24) b 24 w' HBW.out (by omega) (by omega)).mono ?_
              rintro e w9 ⟨rfl, hb9⟩
              exact ⟨_, (by simp [upd, e16]), rfl, (HG.out.bl hb9).1, (HG.out.bl hb9).2⟩
            · have e0 : f' 0 = _ := hd ⟨0, .data⟩ (by simp) rfl
              unfold Oper.wp
              go_simp
              exact ⟨_, (by first | (simp [upd, e0]; done) | (simp [upd, e0]; omega)), rfl, HG.out, GrM.refl _ _ _⟩
            · have e18 : f' 18 = _ := hd ⟨18, .data⟩ (by simp) rfl
              unfold Oper.wp
              go_simp
              exact ⟨_, (by first | (simp [upd, e18]; done) | (simp [upd, e18]; omega)), rfl, HG.out, GrM.refl _ _ _⟩
            · have e7 : f' 7 = _ := hd ⟨7, .data⟩ (by simp) rfl
              have e19 : f' 19 = _ := hd ⟨19, .data⟩ (by simp) rfl
              unfold Oper.wp
              go_simp
              obtain ⟨G0, r0, z0⟩ := HG.out.st T6.out (by simp)
              exact ⟨undef, (by simp [upd, e7, e19]), VM.cons (v := undef) z0 T6.out VM.nil, G0, r0⟩
            · have e1 : f' 1 = _ := hd ⟨1, .data⟩ (by simp) rfl
              unfold Oper.wp
              go_simp
              exact ⟨_, (by first | (simp [upd, e1]; done) | (simp [upd, e1]; omega)), rfl, HG.out, GrM.refl _ _ _⟩
            · have e21 : f' 21 = _ := hd ⟨21, .data⟩ (by simp) rfl
              unfold Oper.wp
              go_simp
              exact ⟨_, (by first | (simp [upd, e21]; done) | (simp [upd, e21]; omega)), rfl, HG.out, GrM.refl _ _ _⟩
            · have e11 : f' 11 = _ := hd ⟨11, .data⟩ (by simp) rfl
              have e22 : f' 22 = _ := hd ⟨22, .data⟩ (by simp) rfl
              unfold Oper.wp
              go_simp
              obtain ⟨G0, r0, z0⟩ := HG.out.st T7.out (by simp)
              exact ⟨undef, (by simp [upd, e11, e22]), VM.cons (v := undef) z0 T7.out VM.nil, G0, r0⟩
            · have e2 : f' 2 = _ := hd ⟨2, .data⟩ (by simp) rfl
              unfold Oper.wp
              go_simp
              exact ⟨_, (by first | (simp [upd, e2]; done) | (simp [upd, e2]; omega)), rfl, HG.out, GrM.refl _ _ _⟩
            · have e24 : f' 24 = _ := hd ⟨24, .data⟩ (by simp) rfl
              unfold Oper.wp
              go_simp
              exact ⟨_, (by first | (simp [upd, e24]; done) | (simp [upd, e24]; omega)), rfl, HG.out, GrM.refl _ _ _⟩
            · have e14 : f' 14 = _ := hd ⟨14, .data⟩ (by simp) rfl
              have e25 : f' 25 = _ := hd ⟨25, .data⟩ (by simp) rfl
              unfold Oper.wp
              go_simp
              obtain ⟨G0, r0, z0⟩ := HG.out.st T0.out (by simp)
              obtain ⟨G1, r1, z1⟩ := G0.st T1.out (by simp)
              obtain ⟨G2, r2, z2⟩ := G1.st T2.out (by simp)
              exact ⟨undef, (by simp [upd, e14, e25]), VM.cons (v := undef) (r2 _ _ T0.out (r1 _ _ T0.out z0)) T0.out (VM.cons (r2 _ _ T1.out z1) T1.out (VM.cons z2 T2.out VM.nil)), G2, (r0.trans r1).trans r2⟩
            · have e3 : f' 3 = _ := hd ⟨3, .data⟩ (by simp) rfl
              unfold Oper.wp
              go_simp
              exact ⟨_, (by first | (simp [upd, e3]; done) | (simp [upd, e3]; omega)), rfl, HG.out, GrM.refl _ _ _⟩
            · have e27 : f' 27 = _ := hd ⟨27, .data⟩ (by simp) rfl
              unfold Oper.wp
              go_simp
              exact ⟨_, (by first | (simp [upd, e27]; done) | (simp [upd, e27]; omega)), rfl, HG.out, GrM.refl _ _ _⟩
          · intro o ho f' w' k hk hG hd
            have hbw := HB5.out.rc hG.choose_spec.2.2.2 hgP
            have q6 := hbw.get 6 (by omega)
            rw [HY6.out] at q6
            have c6 : w'.cell? ⟨g, 6, none⟩ = some (.int .u8 y6.toNat) := q6.1
            have q7 := hbw.get 7 (by omega)
            rw [HY7.out] at q7
            have c7 : w'.cell? ⟨g, 7, none⟩ = some (.int .u8 y7.toNat) := q7.1
            have gl : g < w'.heap.size := q6.2
            obtain ⟨⟨x0, k0⟩, g0'⟩ := hG.cell 0 (by show 0 < 19; omega)
            obtain ⟨⟨x1, k1⟩, g1'⟩ := hG.cell 1 (by show 1 < 19; omega)
            obtain ⟨⟨x2, k2⟩, g2'⟩ := hG.cell 2 (by show 2 < 19; omega)
            obtain ⟨⟨x3, k3⟩, g3'⟩ := hG.cell 3 (by show 3 < 19; omega)
            obtain ⟨⟨x4, k4⟩, g4'⟩ := hG.cell 4 (by show 4 < 19; omega)
            obtain ⟨⟨x5, k5⟩, g5'⟩ := hG.cell 5 (by show 5 < 19; omega)
            obtain ⟨⟨x6, k6⟩, g6'⟩ := hG.cell 6 (by show 6 < 19; omega)
            obtain ⟨⟨x7, k7⟩, g7'⟩ := hG.cell 7 (by show 7 < 19; omega)
            have HG := Lib.hid hG
            have HBW := Lib.hid hbw
            clear hG hbw q6 q7
            have e17 : f' 17 = _ := hd 17 (by omega)
            have e28 : f' 28 = _ := hd 28 (by omega)
            obtain ⟨G0, r0, z0⟩ := HG.out.st T3.out (by simp)
            obtain ⟨G1, r1, z1⟩ := G0.st T4.out (by simp)
            obtain ⟨G2, r2, z2⟩ := G1.st T5.out (by simp)
            have rr := (r0.trans r1).trans r2
            have v20 := VM.stab (show VM P (pkA (raw6 b)) [6] w' (f' 20) from hd 20 (by omega)) rr
            have v23 := VM.stab (show VM P (pkA (raw6 b)) [7] w' (f' 23) from hd 23 (by omega)) rr
            have v26 := VM.stab (show VM P (pkA (raw6 b)) [0, 1, 2] w' (f' 26) from hd 26 (by omega)) rr
            have vl : VM P (pkA (raw6 b)) [3, 4, 5] _ undef := VM.cons (r2 _ _ T3.out (r1 _ _ T3.out z0)) T3.out (VM.cons (r2 _ _ T4.out z1) T4.out (VM.cons z2 T5.out VM.nil))
            have HF := Lib.hid (G2.fin (fun j hj v hv => by
              simp only [List.mem_cons, List.mem_nil_iff, or_false] at hj
              rcases hj with rfl | rfl | rfl | rfl | rfl | rfl | rfl | rfl
              · exact v26 0 (by simp) v hv
              · exact v26 1 (by simp) v hv
              · exact v26 2 (by simp) v hv
              · exact vl 3 (by simp) v hv
              · exact vl 4 (by simp) v hv
              · exact vl 5 (by simp) v hv
              · exact v20 6 (by simp) v hv
              · exact v23 7 (by simp) v hv) (fun j hj => by
              simp only [List.mem_cons, List.mem_nil_iff, or_false] at hj
              show j < 19
              omega))
            clear vl rr v20 v23 v26 r0 z0 r1 z1 r2 z2 G0 G1 G2
            replace ho := Option.some.inj ho
            subst ho
            unfold Oper.wp
            go_simp
            go_step
            go_meet
            exact HF.out
          -- @R3 END
        case rest =>
          obtain ⟨hpb, hrc⟩ := hcut
          have HRC : Hid (Rchg (fun k => k = P) w wc) := Lib.hid (by rw [← HW4.out]; exact hrc)
          have HPB := Lib.hid hpb
          have hPl : P < wc.heap.size := lt_of_block hpb
          have c7 : wc.cell? ⟨P, 7, none⟩ = some (.int .i64 y6.toNat) := (cell_of hpb 7).trans T7.out
          have f7 : wc.frozen? ⟨P, 7, none⟩ = false := by simp [World.frozen?, hpb]
          have HFIN : Hid (∀ W : World, W.heap[P]? = some (.cells (pkA (pk6 b)) 31 (0, 0)) → Rchg (fun k => k = P) w W → ∀ off' cap', (bAt W (some ⟨g, off', none⟩) (b.drop 40)) → n - 40 ≤ cap' → HeadOut P g n w (ok6 b) 40 (pk6 b) b (.returned (.tuple #[.slice (some ⟨g, off', none⟩) (n - 40) cap', .int .i64 0])) W) := Lib.hid (fun W h1 h2 off' cap' h3 h4 => ⟨fun _ => ⟨off', cap', rfl, h3, h4, h1⟩, fun c => absurd (c.symm.trans HT.out) (by decide), h2⟩)
          have HAT0 : Hid (n = 40 → ∀ W : World, bAt W (some ⟨g, 0, none⟩) (b.drop 40)) := Lib.hid (fun h W i c hc => by rw [List.drop_of_length_le (by omega)] at hc; cases hc)
          have HAT : Hid (∀ W : World, Rchg (fun k => k = P) w W → bAt W (some ⟨g, 40, none⟩) (b.drop 40)) := Lib.hid (fun W h => by have := (HB.out.rc h hgP).drop 40; simpa using this)
          have HBL : Hid (b.length = n) := Lib.hid hl
          clear hpb hrc HW4 hl
          have d40n : (40 : Int) ≤ (n : Int) := by omega
          have HY : Hid (bytB b 6 = y6.toNat) := Lib.hid (by unfold bytB; rw [HY6.out])
          by_cases h58 : y6.toNat = 58
          · have e58 : ((y6.toNat : Int) == 58) = true := by simp; omega
            have HE := Lib.hid (pk6_58 (b := b) (HY.out.trans h58))
            have HW : Hid (∀ v, v = Value.int .i64 1 → (wc.setCell ⟨P, 7, none⟩ v).heap[P]? = some (.cells (pkA (pk6 b)) 31 (0, 0)) ∧ Rchg (fun k => k = P) w (wc.setCell ⟨P, 7, none⟩ v)) := Lib.hid (by
              rintro v rfl
              refine ⟨(heap_set HPB.out 7 _).trans (by rw [HE.out]), Rchg.set HRC.out (fun _ => rfl) 7 _⟩)
            clear h58
            by_cases hc40 : cap = 40
            · obtain rfl : n = 40 := by omega
              subst hc40
              clear HAT
              go_wp2_with fail
              go_ret2
              exact HFIN.out _ (HW.out _ rfl).1 (HW.out _ rfl).2 0 0 (HAT0.out (by trivial) _) (by omega)
            · go_wp2_with fail
              go_ret2
              exact HFIN.out _ (HW.out _ rfl).1 (HW.out _ rfl).2 _ _ (HAT.out _ (HW.out _ rfl).2) (by omega)
          · have e58 : ((y6.toNat : Int) == 58) = false := by simp; omega
            by_cases h1 : y6.toNat = 1
            · have e1' : ((y6.toNat : Int) == 1) = true := by simp; omega
              have HE := Lib.hid (pk6_1 (b := b) (HY.out.trans h1))
              have HW : Hid (∀ v, v = Value.int .i64 0 → (wc.setCell ⟨P, 7, none⟩ v).heap[P]? = some (.cells (pkA (pk6 b)) 31 (0, 0)) ∧ Rchg (fun k => k = P) w (wc.setCell ⟨P, 7, none⟩ v)) := Lib.hid (by
                rintro v rfl
                refine ⟨(heap_set HPB.out 7 _).trans (by rw [HE.out]), Rchg.set HRC.out (fun _ => rfl) 7 _⟩)
              clear h1 h58
              by_cases hc40 : cap = 40
              · obtain rfl : n = 40 := by omega
                subst hc40
                clear HAT
                go_wp2_with fail
                go_ret2
                exact HFIN.out _ (HW.out _ rfl).1 (HW.out _ rfl).2 0 0 (HAT0.out (by trivial) _) (by omega)
              · go_wp2_with fail
                go_ret2
                exact HFIN.out _ (HW.out _ rfl).1 (HW.out _ rfl).2 _ _ (HAT.out _ (HW.out _ rfl).2) (by omega)
            · have e1' : ((y6.toNat : Int) == 1) = false := by simp; omega
              have HE := Lib.hid (pk6_n (b := b) (by rw [HY.out]; exact h58) (by rw [HY.out]; exact h1))
              clear h1 h58
              by_cases hc40 : cap = 40
              · obtain rfl : n = 40 := by omega
                subst hc40
                clear HAT
                go_wp2_with fail
                go_ret2
                exact HFIN.out _ (by rw [← HE.out]; exact HPB.out) HRC.out 0 0 (HAT0.out (by trivial) _) (by omega)
              · go_wp2_with fail
                go_ret2
                exact HFIN.out _ (by rw [← HE.out]; exact HPB.out) HRC.out _ _ (HAT.out _ HRC.out) (by omega)
    · have e1 : ((uv : Int) != (n : Int) - 40) = true := by simp; omega
      have HF : Hid (ok6 b = false) := Lib.hid (by rw [HOK.out, hl]; simp; intro c; exact absurd c hun)
      clear hun hz
      go_enter Tryz.func19, Tryz.ntmps19
      go_wp2_with fail
      refine hta.mono ?_
      rintro e w9 ⟨rfl, rfl⟩
      clear hta
      go_wp2_with fail
      go_ret2
      exact ⟨fun c => absurd (c.symm.trans HF.out) (by decide), fun _ => ⟨3, by decide, rfl⟩, ⟨rfl, rfl, rfl, Nat.le_refl _, fun _ _ _ => rfl⟩⟩
end Go.Proofs.YtfakfhbcpldeoaaGreatDoor

namespace Go.Proofs.YtfakfhbcpldeoaaGreatDoor
open Go.RowKit Go.Hw

theorem and_u8 (m d : Nat) (h : ∀ n : Fin 256, (bits .and .u8 ((n.val : Nat) : Int) (m : Int) != 0) = (n.val / d % 2 == 1)) (y : UInt8) : ∃ a : Int, bits .and .u8 (y.toNat : Int) (m : Int) = a ∧ (a != 0) = (y.toNat / d % 2 == 1) :=
  ⟨_, rfl, h ⟨y.toNat, UInt8.toNat_lt y⟩⟩
theorem fields_r {p : Pk} (hb : Bare p) (hk : knownP p.f.proto = true) (b : List UInt8) : PkR (fieldsP p b) := by
  obtain ⟨f1, f2, f3, f4, f5, f6, f7, f8⟩ := prot_fields p b
  have a1 : 0 ≤ numB b 0 2 ∧ numB b 0 2 ≤ 65535 := num2 b 0
  have a2 : 0 ≤ numB b 2 4 ∧ numB b 2 4 ≤ 65535 := num2 b 2
  have a3 : 0 ≤ numB b 4 6 ∧ numB b 4 6 ≤ 65535 := num2 b 4
  have a4 : 0 ≤ numB b 6 8 ∧ numB b 6 8 ≤ 65535 := num2 b 6
  have a5 : 0 ≤ numB b 4 8 ∧ numB b 4 8 ≤ 4294967295 := num4 b 4
  have a6 : 0 ≤ numB b 8 12 ∧ numB b 8 12 ≤ 4294967295 := num4 b 8
  have z1 : (0 : Int) ≤ 0 ∧ (0 : Int) ≤ 65535 := by decide
  have z2 : (0 : Int) ≤ 0 ∧ (0 : Int) ≤ 4294967295 := by decide
  have e1 : p.f.fp = 0 := hb.fp
  have e2 : p.f.tp = 0 := hb.tp
  have e3 : p.seq = 0 := hb.seq
  have e4 : p.ack = 0 := hb.ack
  have e5 : p.id = 0 := hb.id
  have hpr := known_or hk
  refine ⟨by rw [f1]; omega, by rw [f3, f4]; exact hb.six, by rw [f5, f6, f7, f8]; exact ⟨hb.src.1, hb.src.2.2.1, hb.dst.1, hb.dst.2.2.1⟩, ?_, ?_, ?_, ?_, ?_, by rw [f2]; exact hb.hops⟩
  · unfold fieldsP; split <;> (try split) <;> first | exact a1 | (show 0 ≤ p.f.fp ∧ p.f.fp ≤ 65535; rw [e1]; exact z1)
  · unfold fieldsP; split <;> (try split) <;> first | exact a2 | (show 0 ≤ p.f.tp ∧ p.f.tp ≤ 65535; rw [e2]; exact z1)
  · unfold fieldsP; split <;> (try split) <;> first | exact a5 | exact ⟨a4.1, Int.le_trans a4.2 (by decide)⟩ | (show 0 ≤ p.seq ∧ p.seq ≤ 4294967295; rw [e3]; exact z2)
  · unfold fieldsP; split <;> (try split) <;> first | exact a6 | (show 0 ≤ p.ack ∧ p.ack ≤ 4294967295; rw [e4]; exact z2)
  · unfold fieldsP; split <;> (try split) <;> first | exact a3 | (show 0 ≤ p.id ∧ p.id ≤ 65535; rw [e5]; exact z1)
theorem PkR.pay {p : Pk} (h : PkR p) (A : Option Addr) (n c : Nat) : PkR { p with pA := A, pn := n, pc := c } := ⟨h.proto, h.six, h.ad, h.fp, h.tp, h.seq, h.ack, h.id, h.hops⟩
/-- What readPart does. -/
def RpOut (P : Nat) (w : World) (q : Pk) (b : List UInt8) (e : Ending) (w' : World) : Prop :=
  e = .returned (.bool (partOk q b)) ∧ (partOk q b = true → ∃ A c, w'.heap[P]? = some (.cells (pkA { fieldsP q b with pA := A, pn := b.length - leastP q.f.proto, pc := c }) 31 (0, 0)) ∧ PayAt w' { fieldsP q b with pA := A, pn := b.length - leastP q.f.proto, pc := c } (b.drop (leastP q.f.proto))) ∧ Rchg (fun k => k = P) w w'
theorem Rchg.here {P : Nat} {w : World} : Rchg (fun k => k = P) w w := ⟨rfl, rfl, rfl, Nat.le_refl _, fun _ _ _ => rfl⟩
theorem PayAt.rc {w w' : World} {p : Pk} {pay : List UInt8} {P : Nat} (h : PayAt w p pay) (hc : Rchg (fun k => k = P) w w') (hn : ∀ g off, p.pA = some ⟨g, off, none⟩ → g ≠ P) : PayAt w' p pay := by
  refine ⟨fun i c hi => ?_, h.len, h.nil, h.le⟩
  obtain ⟨g', off', e, hl, hx⟩ := h.at_ i c hi
  exact ⟨g', off', e, Nat.lt_of_lt_of_le hl hc.size, (World.cell?_of_block (w := w) (a := ⟨g', off' + i, none⟩) (hc.block g' hl (hn _ _ e))).trans hx⟩
theorem bl_setAt {B g : Nat} {w w' : World} {i : Nat} {v : Value} (h : Below B w w') (hg : B ≤ g) : Below B w (w'.setCell ⟨g, i, none⟩ v) :=
  ⟨h.os, h.tape, h.output, by have := h.size; simpa [World.setCell] using this, fun k hk => (Below.heap_setCell w' ⟨g, i, none⟩ v k (by show k ≠ g; omega)).trans (h.block k hk)⟩
theorem Rchg.bl {F : Nat → Prop} {w w1 w2 : World} (h : Rchg F w w1) (hb : Below w1.heap.size w1 w2) : Rchg F w w2 := h.trans (Rchg.of_below (F := F) hb) (fun _ _ e => e)
/-- A cloned payload. -/
theorem bOwn.payF {W : World} {base P n cap : Nat} {A : Option Addr} {bs : List UInt8} (h : bOwn W base A n cap bs) (hP : P < base) (v : Value) (o : Nat) : (∀ W' : World, Rchg (fun k => k = P) (W.setCell ⟨P, o, none⟩ v) W' → bAt W' A bs) ∧ (A = none → cap = 0) := by
  have hne : ∀ g' off', A = some ⟨g', off', none⟩ → P < g' := fun g' off' e => Nat.lt_of_lt_of_le hP (h.2.lt g' (by rw [e]; rfl)).1
  refine ⟨fun W' hr i c hc => ?_, fun e => ?_⟩
  · obtain ⟨g', off', e, hl, hx⟩ := h.at_ i c hc
    have hg := hne _ _ e
    refine ⟨g', off', e, Nat.lt_of_lt_of_le hl (by have := hr.size; simpa [World.setCell] using this), ?_⟩
    refine (World.cell?_of_block (w := W.setCell ⟨P, o, none⟩ v) (a := ⟨g', off' + i, none⟩) (hr.block g' (by simpa [World.setCell] using hl) (by omega))).trans ?_
    rw [World.cell?_of_block (w := W) (a := ⟨g', off' + i, none⟩) (Below.heap_setCell W ⟨P, o, none⟩ v g' (by show g' ≠ P; omega))]
    exact hx
  · rcases h.2.2 with ⟨h1, h2⟩ | ⟨g, cap', cur, h1, _⟩
    · injection h1
    · injection h1 with h1
      rw [e] at h1
      cases h1

set_option maxRecDepth 100000 in
set_option maxHeartbeats 4000000 in
theorem readPartTcp (s6 : Bool) (sh sl : Int) (t6 : Bool) (th tl hops : Int) (P g off n cap : Nat) (b : List UInt8) (w : World) (hb : bAt w (some ⟨g, off, none⟩) b) (hl : b.length = n) (hc : n ≤ cap) (hs : n ≤ 5000) (p : Pk) (hp : p = ⟨⟨6, s6, sh, sl, t6, th, tl, 0, 0⟩, hops, false, false, false, false, 0, 0, false, 0, none, 0, 0⟩) (hbare : Bare p) (hP : w.heap[P]? = some (.cells (pkA p) 31 (0, 0))) (hgP : g ≠ P) :
    Calls Tryz.prog 21 #[.pointer (some ⟨P, 0, none⟩), .slice (some ⟨g, off, none⟩) n cap] w (RpOut P w p b) := by
  have HQ0 := Lib.hid hp
  have HBare := Lib.hid hbare
  have HPr : Hid (p.f.proto = 6) := Lib.hid (by rw [hp])
  have HB0 := Lib.hid hb
  have hP0 := hP
  rw [hp] at hP0
  have c7 : w.cell? ⟨P, 7, none⟩ = some (.int .i64 6) := cell_of hP0 7
  have hPl : P < w.heap.size := lt_of_block hP
  by_cases hlt : n < 20
  · have d0 : decide ((n : Int) < 20) = true := by simp; omega
    have HF : Hid (partOk p b = false) := Lib.hid (by unfold partOk; rw [HPr.out, decide_eq_false (by rw [hl]; show ¬ 20 ≤ n; omega)]; rfl)
    clear hb hP hP0 hp hbare
    go_enter Tryz.func21, Tryz.ntmps21
    go_wp2_with fail
    go_ret
    exact ⟨by rw [HF.out]; rfl, fun c => absurd (c.symm.trans HF.out) (by decide), Rchg.here⟩
  have d0 : decide ((n : Int) < 20) = false := by simp; omega
  have HP0 : Hid (w.heap[P]? = some (.cells (pkA ⟨⟨6, s6, sh, sl, t6, th, tl, 0, 0⟩, hops, false, false, false, false, 0, 0, false, 0, none, 0, 0⟩) 31 (0, 0))) := Lib.hid hP0
  clear hb hP hP0 hp hbare
  have d1 : (20 : Int) ≤ (n : Int) := by omega
  have d1c : (20 : Int) ≤ (cap : Int) := by omega
  go_enter Tryz.func21, Tryz.ntmps21
  go_upto_region 6 with (fail)
  clear c7
  go_cut [] from 18 to 24 (fun wc => ∃ A1 c1, wc.heap[P]? = some (.cells (pkA ⟨⟨6, s6, sh, sl, t6, th, tl, 0, 0⟩, hops, false, false, false, false, 0, 0, false, 0, A1, n - 20, c1⟩) 31 (0, 0)) ∧ Rchg (fun k => k = P) w wc ∧ (∀ W : World, Rchg (fun k => k = P) wc W → bAt W A1 (b.drop 20)) ∧ (A1 = none → c1 = 0))
  case first =>
    have HLD : Hid ((b.drop 20).length = n - 20) := Lib.hid (by simp; omega)
    by_cases hcl : cap = 20
    · obtain rfl : n = 20 := by omega
      subst hcl
      have hcb := fun W (h : bAt W (some ⟨g, off, none⟩) (b.drop 20)) => cloneB_any g off 0 0 (b.drop 20) W h (by have := HLD.out; omega) (by omega)
      have HE : Hid (∀ W : World, bAt W (some ⟨g, off, none⟩) (b.drop 20)) := Lib.hid (fun W i c hc => by rw [List.drop_of_length_le (by omega)] at hc; cases hc)
      go_wp2_with fail
      refine (hcb _ (HE.out _)).mono ?_
      rintro e W1 ⟨A1, c1, rfl, ho1, hb1⟩
      have hp1 := (hb1.block P hPl).trans HP0.out
      have c18 : W1.cell? ⟨P, 18, none⟩ = some (.slice none 0 0) := cell_of hp1 18
      have f18 : W1.frozen? ⟨P, 18, none⟩ = false := by simp [World.frozen?, hp1]
      have hPl1 : P < W1.heap.size := lt_of_block hp1
      have HFI := Lib.hid (And.intro (heap_set hp1 18 (.slice A1 0 c1)) (And.intro (Rchg.set (Rchg.of_below (F := fun k => k = P) hb1) (fun _ => rfl) 18 (.slice A1 0 c1)) (ho1.payF hPl (.slice A1 0 c1) 18)))
      clear hcb hb1 ho1 hp1
      go_wp2_with fail
      go_meet
      exact ⟨A1, c1, HFI.out.1, HFI.out.2.1, HFI.out.2.2.1, HFI.out.2.2.2⟩
    · have hcb := fun W (h : bAt W (some ⟨g, off + 20, none⟩) (b.drop 20)) => cloneB_any g (off + 20) (n - 20) (cap - 20) (b.drop 20) W h HLD.out (by omega)
      go_wp2_with fail
      refine (hcb _ (HB0.out.drop 20)).mono ?_
      rintro e W1 ⟨A1, c1, rfl, ho1, hb1⟩
      have hp1 := (hb1.block P hPl).trans HP0.out
      have c18 : W1.cell? ⟨P, 18, none⟩ = some (.slice none 0 0) := cell_of hp1 18
      have f18 : W1.frozen? ⟨P, 18, none⟩ = false := by simp [World.frozen?, hp1]
      have hPl1 : P < W1.heap.size := lt_of_block hp1
      have HFI := Lib.hid (And.intro (heap_set hp1 18 (.slice A1 (n - 20) c1)) (And.intro (Rchg.set (Rchg.of_below (F := fun k => k = P) hb1) (fun _ => rfl) 18 (.slice A1 (n - 20) c1)) (ho1.payF hPl (.slice A1 (n - 20) c1) 18)))
      clear hcb hb1 ho1 hp1
      go_wp2_with fail
      go_meet
      exact ⟨A1, c1, HFI.out.1, HFI.out.2.1, HFI.out.2.2.1, HFI.out.2.2.2⟩
  case rest =>
  obtain ⟨A1, c1, hpb, hrc, hat, hnil⟩ := hcut
  obtain ⟨W1, rfl⟩ : ∃ W1 : World, W1 = wc := ⟨_, rfl⟩
  have HB1 := Lib.hid (HB0.out.rc hrc hgP)
  have HRC0 := Lib.hid hrc
  have HAT := Lib.hid hat
  have HNIL := Lib.hid hnil
  have HR : Hid (Rchg (fun k => k = P) W1 W1) := Lib.hid Rchg.here
  obtain ⟨q1, hq1⟩ : ∃ q1 : Pk, q1 = ⟨⟨6, s6, sh, sl, t6, th, tl, 0, 0⟩, hops, false, false, false, false, 0, 0, false, 0, A1, n - 20, c1⟩ := ⟨_, rfl⟩
  rw [← hq1] at hpb
  have HQ1 := Lib.hid hq1
  have HPB := Lib.hid hpb
  have c7 : W1.cell? ⟨P, 7, none⟩ = some (.int .i64 6) := (cell_of hpb 7).trans (by rw [hq1]; rfl)
  have hPl1 : P < W1.heap.size := lt_of_block hpb
  clear hpb hrc hat hnil hq1
  have sw0 : IntKind.i64.wrap ((takeN (subB b 0 2) : Nat) : Int) = ((takeN (subB b 0 2) : Nat) : Int) := IntWalk.i64_in _ (by have h : 0 ≤ numB b 0 2 ∧ numB b 0 2 ≤ 65535 := num2 b 0; unfold numB at h; omega)
  have sw2 : IntKind.i64.wrap ((takeN (subB b 2 4) : Nat) : Int) = ((takeN (subB b 2 4) : Nat) : Int) := IntWalk.i64_in _ (by have h : 0 ≤ numB b 2 4 ∧ numB b 2 4 ≤ 65535 := num2 b 2; unfold numB at h; omega)
  have cd2 : (2 : Int) ≤ (cap : Int) := by omega
  have cn2 : 2 ≤ cap := by omega
  have nc2 : ¬ cap = 2 := by omega
  have md2 : (2 : Int) < (n : Int) := by omega
  have cd4 : (4 : Int) ≤ (cap : Int) := by omega
  have cn4 : 4 ≤ cap := by omega
  have nc4 : ¬ cap = 4 := by omega
  have md4 : (4 : Int) < (n : Int) := by omega
  obtain ⟨q2, hq2⟩ : ∃ q2 : Pk, q2 = ⟨⟨6, s6, sh, sl, t6, th, tl, (numB b 0 2), (numB b 2 4)⟩, hops, false, false, false, false, 0, 0, false, 0, A1, n - 20, c1⟩ := ⟨_, rfl⟩
  have HQ2 := Lib.hid hq2
  clear hq2
  have HGS : Hid (GM W1 P 31 (pkA q2) [8, 9] W1.drew) := Lib.hid (GM.start HPB.out rfl (fun i hi => by
    simp only [List.mem_cons, List.mem_nil_iff, or_false, not_or] at hi
    rw [HQ1.out, HQ2.out]
    rcases i with _ | _ | _ | _ | _ | _ | _ | _ | _ | _ | _ | _ | _ | _ | _ | _ | _ | _ | _ | i <;> first | rfl | (exfalso; omega)))
  have T8 : Hid ((pkA q2)[8]? = some (.int .i64 (takeN (subB b 0 2)))) := Lib.hid (by rw [HQ2.out]; rfl)
  have T9 : Hid ((pkA q2)[9]? = some (.int .i64 (takeN (subB b 2 4)))) := Lib.hid (by rw [HQ2.out]; rfl)
  go_upto_region 10 with (fail)
  go_cut [] from 57 to 70 (fun wc => wc.heap[P]? = some (.cells (pkA q2) 31 (0, 0)) ∧ Rchg (fun k => k = P) W1 wc)
  case first =>
    refine wp_region_drawn 15 (fun f' => ⟨#[.pointer (some ⟨P, 0, none⟩), .slice (some ⟨g, off, none⟩) n cap, undef, undef, .bool false, .int .i64 20, undef, undef, undef, .pointer (some ⟨P, 0, none⟩), .pointer (some ⟨P, 0, none⟩), .pointer (some ⟨P, 7, none⟩), .int .i64 6, .bool true, .slice (some ⟨g, off, none⟩) n cap, .int .i64 n, .int .i64 20, .bool false, u18, u19, u20, u21, u22, u23, u24, .pointer (some ⟨P, 0, none⟩), .pointer (some ⟨P, 0, none⟩), .pointer (some ⟨P, 7, none⟩), .int .i64 6, .bool false, undef, undef, undef, undef, undef, undef, undef, undef, undef, undef, undef, undef, undef, undef, undef, undef, undef, undef, undef, undef, undef, undef, undef, undef, undef, undef, undef, f' 0, f' 1, f' 2, f' 3, f' 4, f' 5, f' 6, f' 7, f' 8, f' 9, f' 10, f' 11, f' 13, f' 14, undef, undef, undef, undef, undef, undef, undef, undef, undef, undef, undef, undef, undef, undef, undef, undef, undef, undef, undef, undef, undef, undef, undef, undef, undef, undef, undef, undef, undef, undef, undef, undef, undef, undef, undef, undef, undef, undef, undef, undef, undef, undef, undef, undef, undef, undef, undef, undef, undef, undef, undef, undef, undef, undef, undef, undef, undef, undef, undef, undef, undef, undef, undef, undef, undef, undef, undef, undef, undef, undef, undef, undef, undef, undef, undef, undef, undef, undef, undef, undef, undef, undef, undef, undef], []⟩) (VL [VIs (.pointer (some ⟨P, 0, none⟩)), VIs (.pointer (some ⟨P, 0, none⟩)), VIs (.slice (some ⟨g, off, none⟩) n cap), VIs (.slice (some ⟨g, off, none⟩) 2 cap), VIs (.int .u64 (takeN (subB b 0 2))), VIs (.int .i64 (takeN (subB b 0 2))), VIs (.slice (some ⟨g, off, none⟩) n cap), VIs (.slice (some ⟨g, off + 2, none⟩) 2 (cap - 2)), VIs (.int .u64 (takeN (subB b 2 4))), VIs (.int .i64 (takeN (subB b 2 4))), VIs (.pointer (some ⟨P, 0, none⟩)), VIs (.pointer (some ⟨P, 8, none⟩)), VM P (pkA q2) [8], VIs (.pointer (some ⟨P, 0, none⟩)), VIs (.pointer (some ⟨P, 9, none⟩))]) (fun _ w' => GM W1 P 31 (pkA q2) [8, 9] w') (GrM P (pkA q2)) (fun _ => undef) (show Tryz.prog.follows .mixedOrders = true from by kernel_rfl) (by kernel_rfl) ?_ ?_ ?_ (HGS.out)
    · exact fun i w w' v h hg => VL.stabG (Gr := GrM P (pkA q2)) (by
        intro q hq w w' v hv hg
        simp only [List.mem_cons, List.mem_nil_iff, or_false] at hq
        rcases hq with rfl | rfl | rfl | rfl | rfl | rfl | rfl | rfl | rfl | rfl | rfl | rfl | rfl | rfl | rfl <;> first | exact hv | (exact VM.stab hv hg)) i w w' v h hg
    · intro i o hi ho f' w' k hk hG hd
      have hbw := HB1.out.rc (HR.out.trans hG.choose_spec.2.2.2 (fun _ _ e => e)) hgP
      obtain ⟨⟨x8, k8⟩, g8'⟩ := hG.cell 8 (by show 8 < 19; omega)
      obtain ⟨⟨x9, k9⟩, g9'⟩ := hG.cell 9 (by show 9 < 19; omega)
      have HG := Lib.hid hG
      have HBW := Lib.hid hbw
      clear hG hbw 
      have hcase : i = 0 ∨ i = 1 ∨ i = 2 ∨ i = 3 ∨ i = 4 ∨ i = 5 ∨ i = 6 ∨ i = 7 ∨ i = 8 ∨ i = 9 ∨ i = 10 ∨ i = 11 ∨ i = 12 ∨ i = 13 ∨ i = 14 := by omega
      rcases hcase with rfl | rfl | rfl | rfl | rfl | rfl | rfl | rfl | rfl | rfl | rfl | rfl | rfl | rfl | rfl <;> (replace ho := Option.some.inj ho; subst ho)
      · unfold Oper.wp
        go_simp
        exact ⟨_, (by first | (simp [upd]; done) | (simp [upd]; omega)), rfl, HG.out, GrM.refl _ _ _⟩
      · unfold Oper.wp
        go_simp
        exact ⟨_, (by first | (simp [upd]; done) | (simp [upd]; omega)), rfl, HG.out, GrM.refl _ _ _⟩
      · unfold Oper.wp
        go_simp
        exact ⟨_, (by first | (simp [upd]; done) | (simp [upd]; omega)), rfl, HG.out, GrM.refl _ _ _⟩
      · have e2 : f' 2 = _ := hd ⟨2, .data⟩ (by simp) rfl
        unfold Oper.wp
        go_simp
        exact ⟨_, (by simp [upd, e2]), rfl, HG.out, GrM.refl _ _ _⟩
      · have e3 : f' 3 = _ := hd ⟨3, .data⟩ (by simp) rfl
        unfold Oper.wp
        go_simp
        refine (take_sub g off cap b 0 2 w' HBW.out (by omega) (by omega)).mono ?_
        rintro e w9 ⟨rfl, rfl⟩
        exact ⟨_, (by simp [upd, e3]), rfl, HG.out, GrM.refl _ _ _⟩
      · have e4 : f' 4 = _ := hd ⟨4, .data⟩ (by simp) rfl
        unfold Oper.wp
        go_simp
        exact ⟨_, (by first | (simp [upd, e4]; done) | (simp [upd, e4]; omega)), rfl, HG.out, GrM.refl _ _ _⟩
      · unfold Oper.wp
        go_simp
        exact ⟨_, (by first | (simp [upd]; done) | (simp [upd]; omega)), rfl, HG.out, GrM.refl _ _ _⟩
      · have e6 : f' 6 = _ := hd ⟨6, .data⟩ (by simp) rfl
        unfold Oper.wp
        go_simp
        exact ⟨_, (by simp [upd, e6]), rfl, HG.out, GrM.refl _ _ _⟩
      · have e7 : f' 7 = _ := hd ⟨7, .data⟩ (by simp) rfl
        unfold Oper.wp
        go_simp
        refine (take_sub g off (cap - 2) b 2 2 w' HBW.out (by omega) (by omega)).mono ?_
        rintro e w9 ⟨rfl, rfl⟩
        exact ⟨_, (by simp [upd, e7]), rfl, HG.out, GrM.refl _ _ _⟩
      · have e8 : f' 8 = _ := hd ⟨8, .data⟩ (by simp) rfl
        unfold Oper.wp
        go_simp
        exact ⟨_, (by first | (simp [upd, e8]; done) | (simp [upd, e8]; omega)), rfl, HG.out, GrM.refl _ _ _⟩
      · have e0 : f' 0 = _ := hd ⟨0, .data⟩ (by simp) rfl
        unfold Oper.wp
        go_simp
        exact ⟨_, (by first | (simp [upd, e0]; done) | (simp [upd, e0]; omega)), rfl, HG.out, GrM.refl _ _ _⟩
      · have e10 : f' 10 = _ := hd ⟨10, .data⟩ (by simp) rfl
        unfold Oper.wp
        go_simp
        exact ⟨_, (by first | (simp [upd, e10]; done) | (simp [upd, e10]; omega)), rfl, HG.out, GrM.refl _ _ _⟩
      · have e5 : f' 5 = _ := hd ⟨5, .data⟩ (by simp) rfl
        have e11 : f' 11 = _ := hd ⟨11, .data⟩ (by simp) rfl
        unfold Oper.wp
        go_simp
        obtain ⟨G0, r0, z0⟩ := HG.out.st T8.out (by simp)
        exact ⟨undef, (by simp [upd, e5, e11]), VM.cons (v := undef) z0 T8.out VM.nil, G0, r0⟩
      · have e1 : f' 1 = _ := hd ⟨1, .data⟩ (by simp) rfl
        unfold Oper.wp
        go_simp
        exact ⟨_, (by first | (simp [upd, e1]; done) | (simp [upd, e1]; omega)), rfl, HG.out, GrM.refl _ _ _⟩
      · have e13 : f' 13 = _ := hd ⟨13, .data⟩ (by simp) rfl
        unfold Oper.wp
        go_simp
        exact ⟨_, (by first | (simp [upd, e13]; done) | (simp [upd, e13]; omega)), rfl, HG.out, GrM.refl _ _ _⟩
    · intro o ho f' w' k hk hG hd
      have hbw := HB1.out.rc (HR.out.trans hG.choose_spec.2.2.2 (fun _ _ e => e)) hgP
      obtain ⟨⟨x8, k8⟩, g8'⟩ := hG.cell 8 (by show 8 < 19; omega)
      obtain ⟨⟨x9, k9⟩, g9'⟩ := hG.cell 9 (by show 9 < 19; omega)
      have HG := Lib.hid hG
      have HBW := Lib.hid hbw
      clear hG hbw 
      have e9 : f' 9 = _ := hd 9 (by omega)
      have e14 : f' 14 = _ := hd 14 (by omega)
      obtain ⟨G0, r0, z0⟩ := HG.out.st T9.out (by simp)
      have rr := r0
      have v12 := VM.stab (show VM P (pkA q2) [8] w' (f' 12) from hd 12 (by omega)) rr
      have vl : VM P (pkA q2) [9] _ undef := VM.cons z0 T9.out VM.nil
      have HF := Lib.hid (G0.fin (fun j hj v hv => by
        simp only [List.mem_cons, List.mem_nil_iff, or_false] at hj
        rcases hj with rfl | rfl
        · exact v12 8 (by simp) v hv
        · exact vl 9 (by simp) v hv) (fun j hj => by
        simp only [List.mem_cons, List.mem_nil_iff, or_false] at hj
        show j < 19
        omega))
      clear vl rr v12 r0 z0 G0
      replace ho := Option.some.inj ho
      subst ho
      unfold Oper.wp
      go_simp
      go_step
      go_meet
      exact HF.out
  case rest =>
  obtain ⟨hpb, hrc⟩ := hcut
  obtain ⟨W2, rfl⟩ : ∃ W2 : World, W2 = wc := ⟨_, rfl⟩
  have HR : Hid (Rchg (fun k => k = P) W1 W2) := Lib.hid (HR.out.trans hrc (fun _ _ e => e))
  clear HGS HPB
  have HPB := Lib.hid hpb
  clear hrc
  have hPl2 : P < W2.heap.size := lt_of_block hpb
  clear hPl1
  have hPl1 := hPl2
  clear hPl2
  clear hpb c7
  have c7 : W2.cell? ⟨P, 7, none⟩ = some (.int .i64 6) := (cell_of HPB.out 7).trans (by rw [HQ2.out]; rfl)
  have sw4 : IntKind.i64.wrap ((takeN (subB b 4 8) : Nat) : Int) = ((takeN (subB b 4 8) : Nat) : Int) := IntWalk.i64_in _ (by have h : 0 ≤ numB b 4 8 ∧ numB b 4 8 ≤ 4294967295 := num4 b 4; unfold numB at h; omega)
  have sw8 : IntKind.i64.wrap ((takeN (subB b 8 12) : Nat) : Int) = ((takeN (subB b 8 12) : Nat) : Int) := IntWalk.i64_in _ (by have h : 0 ≤ numB b 8 12 ∧ numB b 8 12 ≤ 4294967295 := num4 b 8; unfold numB at h; omega)
  have cd8 : (8 : Int) ≤ (cap : Int) := by omega
  have cn8 : 8 ≤ cap := by omega
  have nc8 : ¬ cap = 8 := by omega
  have md8 : (8 : Int) < (n : Int) := by omega
  have cd12 : (12 : Int) ≤ (cap : Int) := by omega
  have cn12 : 12 ≤ cap := by omega
  have nc12 : ¬ cap = 12 := by omega
  have md12 : (12 : Int) < (n : Int) := by omega
  obtain ⟨q3, hq3⟩ : ∃ q3 : Pk, q3 = ⟨⟨6, s6, sh, sl, t6, th, tl, (numB b 0 2), (numB b 2 4)⟩, hops, false, false, false, false, (numB b 4 8), (numB b 8 12), false, 0, A1, n - 20, c1⟩ := ⟨_, rfl⟩
  have HQ3 := Lib.hid hq3
  clear hq3
  have HGS : Hid (GM W2 P 31 (pkA q3) [14, 15] W2.drew) := Lib.hid (GM.start HPB.out rfl (fun i hi => by
    simp only [List.mem_cons, List.mem_nil_iff, or_false, not_or] at hi
    rw [HQ2.out, HQ3.out]
    rcases i with _ | _ | _ | _ | _ | _ | _ | _ | _ | _ | _ | _ | _ | _ | _ | _ | _ | _ | _ | i <;> first | rfl | (exfalso; omega)))
  have T14 : Hid ((pkA q3)[14]? = some (.int .i64 (takeN (subB b 4 8)))) := Lib.hid (by rw [HQ3.out]; rfl)
  have T15 : Hid ((pkA q3)[15]? = some (.int .i64 (takeN (subB b 8 12)))) := Lib.hid (by rw [HQ3.out]; rfl)
  go_upto_region 12 with (fail)
  go_cut [] from 76 to 89 (fun wc => wc.heap[P]? = some (.cells (pkA q3) 31 (0, 0)) ∧ Rchg (fun k => k = P) W2 wc)
  case first =>
    refine wp_region_drawn 15 (fun f' => ⟨#[.pointer (some ⟨P, 0, none⟩), .slice (some ⟨g, off, none⟩) n cap, undef, undef, .bool false, .int .i64 20, undef, undef, undef, .pointer (some ⟨P, 0, none⟩), .pointer (some ⟨P, 0, none⟩), .pointer (some ⟨P, 7, none⟩), .int .i64 6, .bool true, .slice (some ⟨g, off, none⟩) n cap, .int .i64 n, .int .i64 20, .bool false, u18, u19, u20, u21, u22, u23, u24, .pointer (some ⟨P, 0, none⟩), .pointer (some ⟨P, 0, none⟩), .pointer (some ⟨P, 7, none⟩), .int .i64 6, .bool false, undef, undef, undef, undef, undef, undef, undef, undef, undef, undef, undef, undef, undef, undef, undef, undef, undef, undef, undef, undef, undef, undef, undef, undef, undef, undef, undef, u57, u58, u59, u60, u61, u62, u63, u64, u65, u66, u67, u68, u69, u70, .pointer (some ⟨P, 0, none⟩), .pointer (some ⟨P, 0, none⟩), .pointer (some ⟨P, 7, none⟩), .int .i64 6, .bool true, f' 0, f' 1, f' 2, f' 3, f' 4, f' 5, f' 6, f' 7, f' 8, f' 9, f' 10, f' 11, f' 13, f' 14, undef, undef, undef, undef, undef, undef, undef, undef, undef, undef, undef, undef, undef, undef, undef, undef, undef, undef, undef, undef, undef, undef, undef, undef, undef, undef, undef, undef, undef, undef, undef, undef, undef, undef, undef, undef, undef, undef, undef, undef, undef, undef, undef, undef, undef, undef, undef, undef, undef, undef, undef, undef, undef, undef, undef, undef, undef, undef, undef, undef, undef, undef, undef, undef, undef], []⟩) (VL [VIs (.pointer (some ⟨P, 0, none⟩)), VIs (.pointer (some ⟨P, 0, none⟩)), VIs (.slice (some ⟨g, off, none⟩) n cap), VIs (.slice (some ⟨g, off + 4, none⟩) 4 (cap - 4)), VIs (.int .u64 (takeN (subB b 4 8))), VIs (.int .i64 (takeN (subB b 4 8))), VIs (.slice (some ⟨g, off, none⟩) n cap), VIs (.slice (some ⟨g, off + 8, none⟩) 4 (cap - 8)), VIs (.int .u64 (takeN (subB b 8 12))), VIs (.int .i64 (takeN (subB b 8 12))), VIs (.pointer (some ⟨P, 0, none⟩)), VIs (.pointer (some ⟨P, 14, none⟩)), VM P (pkA q3) [14], VIs (.pointer (some ⟨P, 0, none⟩)), VIs (.pointer (some ⟨P, 15, none⟩))]) (fun _ w' => GM W2 P 31 (pkA q3) [14, 15] w') (GrM P (pkA q3)) (fun _ => undef) (show Tryz.prog.follows .mixedOrders = true from by kernel_rfl) (by kernel_rfl) ?_ ?_ ?_ (HGS.out)
    · exact fun i w w' v h hg => VL.stabG (Gr := GrM P (pkA q3)) (by
        intro q hq w w' v hv hg
        simp only [List.mem_cons, List.mem_nil_iff, or_false] at hq
        rcases hq with rfl | rfl | rfl | rfl | rfl | rfl | rfl | rfl | rfl | rfl | rfl | rfl | rfl | rfl | rfl <;> first | exact hv | (exact VM.stab hv hg)) i w w' v h hg
    · intro i o hi ho f' w' k hk hG hd
      have hbw := HB1.out.rc (HR.out.trans hG.choose_spec.2.2.2 (fun _ _ e => e)) hgP
      obtain ⟨⟨x14, k14⟩, g14'⟩ := hG.cell 14 (by show 14 < 19; omega)
      obtain ⟨⟨x15, k15⟩, g15'⟩ := hG.cell 15 (by show 15 < 19; omega)
      have HG := Lib.hid hG
      have HBW := Lib.hid hbw
      clear hG hbw 
      have hcase : i = 0 ∨ i = 1 ∨ i = 2 ∨ i = 3 ∨ i = 4 ∨ i = 5 ∨ i = 6 ∨ i = 7 ∨ i = 8 ∨ i = 9 ∨ i = 10 ∨ i = 11 ∨ i = 12 ∨ i = 13 ∨ i = 14 := by omega
      rcases hcase with rfl | rfl | rfl | rfl | rfl | rfl | rfl | rfl | rfl | rfl | rfl | rfl | rfl | rfl | rfl <;> (replace ho := Option.some.inj ho; subst ho)
      · unfold Oper.wp
        go_simp
        exact ⟨_, (by first | (simp [upd]; done) | (simp [upd]; omega)), rfl, HG.out, GrM.refl _ _ _⟩
      · unfold Oper.wp
        go_simp
        exact ⟨_, (by first | (simp [upd]; done) | (simp [upd]; omega)), rfl, HG.out, GrM.refl _ _ _⟩
      · unfold Oper.wp
        go_simp
        exact ⟨_, (by first | (simp [upd]; done) | (simp [upd]; omega)), rfl, HG.out, GrM.refl _ _ _⟩
      · have e2 : f' 2 = _ := hd ⟨2, .data⟩ (by simp) rfl
        unfold Oper.wp
        go_simp
        exact ⟨_, (by simp [upd, e2]), rfl, HG.out, GrM.refl _ _ _⟩
      · have e3 : f' 3 = _ := hd ⟨3, .data⟩ (by simp) rfl
        unfold Oper.wp
        go_simp
        refine (take_sub g off (cap - 4) b 4 4 w' HBW.out (by omega) (by omega)).mono ?_
        rintro e w9 ⟨rfl, rfl⟩
        exact ⟨_, (by simp [upd, e3]), rfl, HG.out, GrM.refl _ _ _⟩
      · have e4 : f' 4 = _ := hd ⟨4, .data⟩ (by simp) rfl
        unfold Oper.wp
        go_simp
        exact ⟨_, (by first | (simp [upd, e4]; done) | (simp [upd, e4]; omega)), rfl, HG.out, GrM.refl _ _ _⟩
      · unfold Oper.wp
        go_simp
        exact ⟨_, (by first | (simp [upd]; done) | (simp [upd]; omega)), rfl, HG.out, GrM.refl _ _ _⟩
      · have e6 : f' 6 = _ := hd ⟨6, .data⟩ (by simp) rfl
        unfold Oper.wp
        go_simp
        exact ⟨_, (by simp [upd, e6]), rfl, HG.out, GrM.refl _ _ _⟩
      · have e7 : f' 7 = _ := hd ⟨7, .data⟩ (by simp) rfl
        unfold Oper.wp
        go_simp
        refine (take_sub g off (cap - 8) b 8 4 w' HBW.out (by omega) (by omega)).mono ?_
        rintro e w9 ⟨rfl, rfl⟩
        exact ⟨_, (by simp [upd, e7]), rfl, HG.out, GrM.refl _ _ _⟩
      · have e8 : f' 8 = _ := hd ⟨8, .data⟩ (by simp) rfl
        unfold Oper.wp
        go_simp
        exact ⟨_, (by first | (simp [upd, e8]; done) | (simp [upd, e8]; omega)), rfl, HG.out, GrM.refl _ _ _⟩
      · have e0 : f' 0 = _ := hd ⟨0, .data⟩ (by simp) rfl
        unfold Oper.wp
        go_simp
        exact ⟨_, (by first | (simp [upd, e0]; done) | (simp [upd, e0]; omega)), rfl, HG.out, GrM.refl _ _ _⟩
      · have e10 : f' 10 = _ := hd ⟨10, .data⟩ (by simp) rfl
        unfold Oper.wp
        go_simp
        exact ⟨_, (by first | (simp [upd, e10]; done) | (simp [upd, e10]; omega)), rfl, HG.out, GrM.refl _ _ _⟩
      · have e5 : f' 5 = _ := hd ⟨5, .data⟩ (by simp) rfl
        have e11 : f' 11 = _ := hd ⟨11, .data⟩ (by simp) rfl
        unfold Oper.wp
        go_simp
        obtain ⟨G0, r0, z0⟩ := HG.out.st T14.out (by simp)
        exact ⟨undef, (by simp [upd, e5, e11]), VM.cons (v := undef) z0 T14.out VM.nil, G0, r0⟩
      · have e1 : f' 1 = _ := hd ⟨1, .data⟩ (by simp) rfl
        unfold Oper.wp
        go_simp
        exact ⟨_, (by first | (simp [upd, e1]; done) | (simp [upd, e1]; omega)), rfl, HG.out, GrM.refl _ _ _⟩
      · have e13 : f' 13 = _ := hd ⟨13, .data⟩ (by simp) rfl
        unfold Oper.wp
        go_simp
        exact ⟨_, (by first | (simp [upd, e13]; done) | (simp [upd, e13]; omega)), rfl, HG.out, GrM.refl _ _ _⟩
    · intro o ho f' w' k hk hG hd
      have hbw := HB1.out.rc (HR.out.trans hG.choose_spec.2.2.2 (fun _ _ e => e)) hgP
      obtain ⟨⟨x14, k14⟩, g14'⟩ := hG.cell 14 (by show 14 < 19; omega)
      obtain ⟨⟨x15, k15⟩, g15'⟩ := hG.cell 15 (by show 15 < 19; omega)
      have HG := Lib.hid hG
      have HBW := Lib.hid hbw
      clear hG hbw 
      have e9 : f' 9 = _ := hd 9 (by omega)
      have e14 : f' 14 = _ := hd 14 (by omega)
      obtain ⟨G0, r0, z0⟩ := HG.out.st T15.out (by simp)
      have rr := r0
      have v12 := VM.stab (show VM P (pkA q3) [14] w' (f' 12) from hd 12 (by omega)) rr
      have vl : VM P (pkA q3) [15] _ undef := VM.cons z0 T15.out VM.nil
      have HF := Lib.hid (G0.fin (fun j hj v hv => by
        simp only [List.mem_cons, List.mem_nil_iff, or_false] at hj
        rcases hj with rfl | rfl
        · exact v12 14 (by simp) v hv
        · exact vl 15 (by simp) v hv) (fun j hj => by
        simp only [List.mem_cons, List.mem_nil_iff, or_false] at hj
        show j < 19
        omega))
      clear vl rr v12 r0 z0 G0
      replace ho := Option.some.inj ho
      subst ho
      unfold Oper.wp
      go_simp
      go_step
      go_meet
      exact HF.out
  case rest =>
  obtain ⟨hpb, hrc⟩ := hcut
  obtain ⟨W3, rfl⟩ : ∃ W3 : World, W3 = wc := ⟨_, rfl⟩
  have HR : Hid (Rchg (fun k => k = P) W1 W3) := Lib.hid (HR.out.trans hrc (fun _ _ e => e))
  clear HGS HPB
  have HPB := Lib.hid hpb
  clear hrc
  have hPl2 : P < W3.heap.size := lt_of_block hpb
  clear hPl1
  have hPl1 := hPl2
  clear hPl2
  clear hpb c7
  obtain ⟨y13, hy13⟩ : ∃ y, b.getD 13 0 = y := ⟨_, rfl⟩
  have HY13 := Lib.hid hy13
  clear hy13
  have md13 : (13 : Int) < (n : Int) := by omega
  have HYB : Hid (bytB b 13 = y13.toNat) := Lib.hid (by unfold bytB; rw [HY13.out])
  obtain ⟨a1, ha1, hb1⟩ : ∃ x : Int, bits .and .u8 (y13.toNat : Int) 1 = x ∧ (x != 0) = (y13.toNat / 1 % 2 == 1) := and_u8 1 1 (by decide +kernel) y13
  obtain ⟨a2, ha2, hb2⟩ : ∃ x : Int, bits .and .u8 (y13.toNat : Int) 2 = x ∧ (x != 0) = (y13.toNat / 2 % 2 == 1) := and_u8 2 2 (by decide +kernel) y13
  obtain ⟨a4, ha4, hb4⟩ : ∃ x : Int, bits .and .u8 (y13.toNat : Int) 4 = x ∧ (x != 0) = (y13.toNat / 4 % 2 == 1) := and_u8 4 4 (by decide +kernel) y13
  obtain ⟨a16, ha16, hb16⟩ : ∃ x : Int, bits .and .u8 (y13.toNat : Int) 16 = x ∧ (x != 0) = (y13.toNat / 16 % 2 == 1) := and_u8 16 16 (by decide +kernel) y13
  have HA1 := Lib.hid hb1
  have HA2 := Lib.hid hb2
  have HA4 := Lib.hid hb4
  have HA16 := Lib.hid hb16
  clear hb1 hb2 hb4 hb16
  obtain ⟨q4, hq4⟩ : ∃ q4 : Pk, q4 = ⟨⟨6, s6, sh, sl, t6, th, tl, (numB b 0 2), (numB b 2 4)⟩, hops, (bytB b 13 / 2 % 2 == 1), (bytB b 13 % 2 == 1), (bytB b 13 / 4 % 2 == 1), (bytB b 13 / 16 % 2 == 1), (numB b 4 8), (numB b 8 12), false, 0, A1, n - 20, c1⟩ := ⟨_, rfl⟩
  have HQ4 := Lib.hid hq4
  clear hq4
  have HGS : Hid (GM W3 P 31 (pkA q4) [10, 11, 12, 13] W3.drew) := Lib.hid (GM.start HPB.out rfl (fun i hi => by
    simp only [List.mem_cons, List.mem_nil_iff, or_false, not_or] at hi
    rw [HQ3.out, HQ4.out]
    rcases i with _ | _ | _ | _ | _ | _ | _ | _ | _ | _ | _ | _ | _ | _ | _ | _ | _ | _ | _ | i <;> first | rfl | (exfalso; omega)))
  have T11 : Hid ((pkA q4)[11]? = some (.bool (a1 != 0))) := Lib.hid (by rw [HA1.out, HQ4.out, ← HYB.out, Nat.div_one]; rfl)
  have T10 : Hid ((pkA q4)[10]? = some (.bool (a2 != 0))) := Lib.hid (by rw [HA2.out, HQ4.out, ← HYB.out]; rfl)
  have T12 : Hid ((pkA q4)[12]? = some (.bool (a4 != 0))) := Lib.hid (by rw [HA4.out, HQ4.out, ← HYB.out]; rfl)
  have T13 : Hid ((pkA q4)[13]? = some (.bool (a16 != 0))) := Lib.hid (by rw [HA16.out, HQ4.out, ← HYB.out]; rfl)
  go_upto_region 13 with (fail)
  go_cut [] from 90 to 121 (fun wc => wc.heap[P]? = some (.cells (pkA q4) 31 (0, 0)) ∧ Rchg (fun k => k = P) W3 wc)
  case first =>
    refine wp_region_drawn 35 (fun f' => ⟨#[.pointer (some ⟨P, 0, none⟩), .slice (some ⟨g, off, none⟩) n cap, undef, undef, .bool false, .int .i64 20, undef, undef, undef, .pointer (some ⟨P, 0, none⟩), .pointer (some ⟨P, 0, none⟩), .pointer (some ⟨P, 7, none⟩), .int .i64 6, .bool true, .slice (some ⟨g, off, none⟩) n cap, .int .i64 n, .int .i64 20, .bool false, u18, u19, u20, u21, u22, u23, u24, .pointer (some ⟨P, 0, none⟩), .pointer (some ⟨P, 0, none⟩), .pointer (some ⟨P, 7, none⟩), .int .i64 6, .bool false, undef, undef, undef, undef, undef, undef, undef, undef, undef, undef, undef, undef, undef, undef, undef, undef, undef, undef, undef, undef, undef, undef, undef, undef, undef, undef, undef, u57, u58, u59, u60, u61, u62, u63, u64, u65, u66, u67, u68, u69, u70, .pointer (some ⟨P, 0, none⟩), .pointer (some ⟨P, 0, none⟩), .pointer (some ⟨P, 7, none⟩), .int .i64 6, .bool true, u76, u77, u78, u79, u80, u81, u82, u83, u84, u85, u86, u87, u88, u89, f' 0, f' 1, f' 2, f' 3, f' 4, f' 5, f' 6, f' 7, f' 8, f' 9, f' 10, f' 11, f' 12, f' 13, f' 14, f' 15, f' 16, f' 17, f' 18, f' 19, f' 20, f' 21, f' 22, f' 23, f' 24, f' 25, f' 27, f' 28, f' 30, f' 31, f' 33, f' 34, undef, undef, undef, undef, undef, undef, undef, undef, undef, undef, undef, undef, undef, undef, undef, undef, undef, undef, undef, undef, undef, undef, undef, undef, undef, undef, undef, undef, undef, undef, undef, undef, undef], []⟩) (VL [VIs (.pointer (some ⟨P, 0, none⟩)), VIs (.pointer (some ⟨P, 0, none⟩)), VIs (.pointer (some ⟨P, 0, none⟩)), VIs (.pointer (some ⟨P, 0, none⟩)), VIs (.slice (some ⟨g, off, none⟩) n cap), VIs (.pointer (some ⟨g, off + 13, none⟩)), VIs (.int .u8 y13.toNat), VIs (.int .u8 a1), VIs (.bool (a1 != 0)), VIs (.slice (some ⟨g, off, none⟩) n cap), VIs (.pointer (some ⟨g, off + 13, none⟩)), VIs (.int .u8 y13.toNat), VIs (.int .u8 a2), VIs (.bool (a2 != 0)), VIs (.slice (some ⟨g, off, none⟩) n cap), VIs (.pointer (some ⟨g, off + 13, none⟩)), VIs (.int .u8 y13.toNat), VIs (.int .u8 a4), VIs (.bool (a4 != 0)), VIs (.slice (some ⟨g, off, none⟩) n cap), VIs (.pointer (some ⟨g, off + 13, none⟩)), VIs (.int .u8 y13.toNat), VIs (.int .u8 a16), VIs (.bool (a16 != 0)), VIs (.pointer (some ⟨P, 0, none⟩)), VIs (.pointer (some ⟨P, 11, none⟩)), VM P (pkA q4) [11], VIs (.pointer (some ⟨P, 0, none⟩)), VIs (.pointer (some ⟨P, 10, none⟩)), VM P (pkA q4) [10], VIs (.pointer (some ⟨P, 0, none⟩)), VIs (.pointer (some ⟨P, 12, none⟩)), VM P (pkA q4) [12], VIs (.pointer (some ⟨P, 0, none⟩)), VIs (.pointer (some ⟨P, 13, none⟩))]) (fun _ w' => GM W3 P 31 (pkA q4) [10, 11, 12, 13] w') (GrM P (pkA q4)) (fun _ => undef) (show Tryz.prog.follows .mixedOrders = true from by kernel_rfl) (by kernel_rfl) ?_ ?_ ?_ (HGS.out)
    · exact fun i w w' v h hg => VL.stabG (Gr := GrM P (pkA q4)) (by
        intro q hq w w' v hv hg
        simp only [List.mem_cons, List.mem_nil_iff, or_false] at hq
        rcases hq with rfl | rfl | rfl | rfl | rfl | rfl | rfl | rfl | rfl | rfl | rfl | rfl | rfl | rfl | rfl | rfl | rfl | rfl | rfl | rfl | rfl | rfl | rfl | rfl | rfl | rfl | rfl | rfl | rfl | rfl | rfl | rfl | rfl | rfl | rfl <;> first | exact hv | (exact VM.stab hv hg)) i w w' v h hg
    · intro i o hi ho f' w' k hk hG hd
      have hbw := HB1.out.rc (HR.out.trans hG.choose_spec.2.2.2 (fun _ _ e => e)) hgP
      have q13 := hbw.get 13 (by omega)
      rw [HY13.out] at q13
      have c13 : w'.cell? ⟨g, off + 13, none⟩ = some (.int .u8 y13.toNat) := q13.1
      have gl : g < w'.heap.size := q13.2
      obtain ⟨⟨x10, k10⟩, g10'⟩ := hG.cell 10 (by show 10 < 19; omega)
      obtain ⟨⟨x11, k11⟩, g11'⟩ := hG.cell 11 (by show 11 < 19; omega)
      obtain ⟨⟨x12, k12⟩, g12'⟩ := hG.cell 12 (by show 12 < 19; omega)
      obtain ⟨⟨x13, k13⟩, g13'⟩ := hG.cell 13 (by show 13 < 19; omega)
      have HG := Lib.hid hG
      have HBW := Lib.hid hbw
      clear hG hbw q13
      have hcase : i = 0 ∨ i = 1 ∨ i = 2 ∨ i = 3 ∨ i = 4 ∨ i = 5 ∨ i = 6 ∨ i = 7 ∨ i = 8 ∨ i = 9 ∨ i = 10 ∨ i = 11 ∨ i = 12 ∨ i = 13 ∨ i = 14 ∨ i = 15 ∨ i = 16 ∨ i = 17 ∨ i = 18 ∨ i = 19 ∨ i = 20 ∨ i = 21 ∨ i = 22 ∨ i = 23 ∨ i = 24 ∨ i = 25 ∨ i = 26 ∨ i = 27 ∨ i = 28 ∨ i = 29 ∨ i = 30 ∨ i = 31 ∨ i = 32 ∨ i = 33 ∨ i = 34 := by omega
      rcases hcase with rfl | rfl | rfl | rfl | rfl | rfl | rfl | rfl | rfl | rfl | rfl | rfl | rfl | rfl | rfl | rfl | rfl | rfl | rfl | rfl | rfl | rfl | rfl | rfl | rfl | rfl | rfl | rfl | rfl | rfl | rfl | rfl | rfl | rfl | rfl <;> (replace ho := Option.some.inj ho; subst ho)
      · unfold Oper.wp
        go_simp
        exact ⟨_, (by first | (simp [upd]; done) | (simp [upd]; omega)), rfl, HG.out, GrM.refl _ _ _⟩
      · unfold Oper.wp
        go_simp
        exact ⟨_, (by first | (simp [upd]; done) | (simp [upd]; omega)), rfl, HG.out, GrM.refl _ _ _⟩
      · unfold Oper.wp
        go_simp
        exact ⟨_, (by first | (simp [upd]; done) | (simp [upd]; omega)), rfl, HG.out, GrM.refl _ _ _⟩
      · unfold Oper.wp
        go_simp
        exact ⟨_, (by first | (simp [upd]; done) | (simp [upd]; omega)), rfl, HG.out, GrM.refl _ _ _⟩
      · unfold Oper.wp
        go_simp
        exact ⟨_, (by first | (simp [upd]; done) | (simp [upd]; omega)), rfl, HG.out, GrM.refl _ _ _⟩
      · have e4 : f' 4 = _ := hd ⟨4, .data⟩ (by simp) rfl
        unfold Oper.wp
        go_simp
        exact ⟨_, (by first | (simp [upd, e4]; done) | (simp [upd, e4]; omega)), rfl, HG.out, GrM.refl _ _ _⟩
      · have e5 : f' 5 = _ := hd ⟨5, .data⟩ (by simp) rfl
        unfold Oper.wp
        go_simp
        exact ⟨_, (by first | (simp [upd, e5]; done) | (simp [upd, e5]; omega)), rfl, HG.out, GrM.refl _ _ _⟩
      · have e6 : f' 6 = _ := hd ⟨6, .data⟩ (by simp) rfl
        unfold Oper.wp
        go_simp
        exact ⟨_, (by first | (simp [upd, e6]; done) | (simp [upd, e6]; omega)), rfl, HG.out, GrM.refl _ _ _⟩
      · have e7 : f' 7 = _ := hd ⟨7, .data⟩ (by simp) rfl
        unfold Oper.wp
        go_simp
        exact ⟨_, (by first | (simp [upd, e7]; done) | (simp [upd, e7]; omega)), rfl, HG.out, GrM.refl _ _ _⟩
      · unfold Oper.wp
        go_simp
        exact ⟨_, (by first | (simp [upd]; done) | (simp [upd]; omega)), rfl, HG.out, GrM.refl _ _ _⟩
      · have e9 : f' 9 = _ := hd ⟨9, .data⟩ (by simp) rfl
        unfold Oper.wp
        go_simp
        exact ⟨_, (by first | (simp [upd, e9]; done) | (simp [upd, e9]; omega)), rfl, HG.out, GrM.refl _ _ _⟩
      · have e10 : f' 10 = _ := hd ⟨10, .data⟩ (by simp) rfl
        unfold Oper.wp
        go_simp
        exact ⟨_, (by first | (simp [upd, e10]; done) | (simp [upd, e10]; omega)), rfl, HG.out, GrM.refl _ _ _⟩
      · have e11 : f' 11 = _ := hd ⟨11, .data⟩ (by simp) rfl
        unfold Oper.wp
        go_simp
        exact ⟨_, (by first | (simp [upd, e11]; done) | (simp [upd, e11]; omega)), rfl, HG.out, GrM.refl _ _ _⟩
      · have e12 : f' 12 = _ := hd ⟨12, .data⟩ (by simp) rfl
        unfold Oper.wp
        go_simp
        exact ⟨_, (by first | (simp [upd, e12]; done) | (simp [upd, e12]; omega)), rfl, HG.out, GrM.refl _ _ _⟩
      · unfold Oper.wp
        go_simp
        exact ⟨_, (by first | (simp [upd]; done) | (simp [upd]; omega)), rfl, HG.out, GrM.refl _ _ _⟩
      · have e14 : f' 14 = _ := hd ⟨14, .data⟩ (by simp) rfl
        unfold Oper.wp
        go_simp
        exact ⟨_, (by first | (simp [upd, e14]; done) | (simp [upd, e14]; omega)), rfl, HG.out, GrM.refl _ _ _⟩
      · have e15 : f' 15 = _ := hd ⟨15, .data⟩ (by simp) rfl
        unfold Oper.wp
        go_simp
        exact ⟨_, (by first | (simp [upd, e15]; done) | (simp [upd, e15]; omega)), rfl, HG.out, GrM.refl _ _ _⟩
      · have e16 : f' 16 = _ := hd ⟨16, .data⟩ (by simp) rfl
        unfold Oper.wp
        go_simp
        exact ⟨_, (by first | (simp [upd, e16]; done) | (simp [upd, e16]; omega)), rfl, HG.out, GrM.refl _ _ _⟩
      · have e17 : f' 17 = _ := hd ⟨17, .data⟩ (by simp) rfl
        unfold Oper.wp
        go_simp
        exact ⟨_, (by first | (simp [upd, e17]; done) | (simp [upd, e17]; omega)), rfl, HG.out, GrM.refl _ _ _⟩
      · unfold Oper.wp
        go_simp
        exact ⟨_, (by first | (simp [upd]; done) | (simp [upd]; omega)), rfl, HG.out, GrM.refl _ _ _⟩
      · have e19 : f' 19 = _ := hd ⟨19, .data⟩ (by simp) rfl
        unfold Oper.wp
        go_simp
        exact ⟨_, (by first | (simp [upd, e19]; done) | (simp [upd, e19]; omega)), rfl, HG.out, GrM.refl _ _ _⟩
      · have e20 : f' 20 = _ := hd ⟨20, .data⟩ (by simp) rfl
        unfold Oper.wp
        go_simp
        exact ⟨_, (by first | (simp [upd, e20]; done) | (simp [upd, e20]; omega)), rfl, HG.out, GrM.refl _ _ _⟩
      · have e21 : f' 21 = _ := hd ⟨21, .data⟩ (by simp) rfl
        unfold Oper.wp
        go_simp
        exact ⟨_, (by first | (simp [upd, e21]; done) | (simp [upd, e21]; omega)), rfl, HG.out, GrM.refl _ _ _⟩
      · have e22 : f' 22 = _ := hd ⟨22, .data⟩ (by simp) rfl
        unfold Oper.wp
        go_simp
        exact ⟨_, (by first | (simp [upd, e22]; done) | (simp [upd, e22]; omega)), rfl, HG.out, GrM.refl _ _ _⟩
      · have e0 : f' 0 = _ := hd ⟨0, .data⟩ (by simp) rfl
        unfold Oper.wp
        go_simp
        exact ⟨_, (by first | (simp [upd, e0]; done) | (simp [upd, e0]; omega)), rfl, HG.out, GrM.refl _ _ _⟩
      · have e24 : f' 24 = _ := hd ⟨24, .data⟩ (by simp) rfl
        unfold Oper.wp
        go_simp
        exact ⟨_, (by first | (simp [upd, e24]; done) | (simp [upd, e24]; omega)), rfl, HG.out, GrM.refl _ _ _⟩
      · have e8 : f' 8 = _ := hd ⟨8, .data⟩ (by simp) rfl
        have e25 : f' 25 = _ := hd ⟨25, .data⟩ (by simp) rfl
        unfold Oper.wp
        go_simp
        obtain ⟨G0, r0, z0⟩ := HG.out.st T11.out (by simp)
        exact ⟨undef, (by simp [upd, e8, e25]), VM.cons (v := undef) z0 T11.out VM.nil, G0, r0⟩
      · have e1 : f' 1 = _ := hd ⟨1, .data⟩ (by simp) rfl
        unfold Oper.wp
        go_simp
        exact ⟨_, (by first | (simp [upd, e1]; done) | (simp [upd, e1]; omega)), rfl, HG.out, GrM.refl _ _ _⟩
      · have e27 : f' 27 = _ := hd ⟨27, .data⟩ (by simp) rfl
        unfold Oper.wp
        go_simp
        exact ⟨_, (by first | (simp [upd, e27]; done) | (simp [upd, e27]; omega)), rfl, HG.out, GrM.refl _ _ _⟩
      · have e13 : f' 13 = _ := hd ⟨13, .data⟩ (by simp) rfl
        have e28 : f' 28 = _ := hd ⟨28, .data⟩ (by simp) rfl
        unfold Oper.wp
        go_simp
        obtain ⟨G0, r0, z0⟩ := HG.out.st T10.out (by simp)
        exact ⟨undef, (by simp [upd, e13, e28]), VM.cons (v := undef) z0 T10.out VM.nil, G0, r0⟩
      · have e2 : f' 2 = _ := hd ⟨2, .data⟩ (by simp) rfl
        unfold Oper.wp
        go_simp
        exact ⟨_, (by first | (simp [upd, e2]; done) | (simp [upd, e2]; omega)), rfl, HG.out, GrM.refl _ _ _⟩
      · have e30 : f' 30 = _ := hd ⟨30, .data⟩ (by simp) rfl
        unfold Oper.wp
        go_simp
        exact ⟨_, (by first | (simp [upd, e30]; done) | (simp [upd, e30]; omega)), rfl, HG.out, GrM.refl _ _ _⟩
      · have e18 : f' 18 = _ := hd ⟨18, .data⟩ (by simp) rfl
        have e31 : f' 31 = _ := hd ⟨31, .data⟩ (by simp) rfl
        unfold Oper.wp
        go_simp
        obtain ⟨G0, r0, z0⟩ := HG.out.st T12.out (by simp)
        exact ⟨undef, (by simp [upd, e18, e31]), VM.cons (v := undef) z0 T12.out VM.nil, G0, r0⟩
      · have e3 : f' 3 = _ := hd ⟨3, .data⟩ (by simp) rfl
        unfold Oper.wp
        go_simp
        exact ⟨_, (by first | (simp [upd, e3]; done) | (simp [upd, e3]; omega)), rfl, HG.out, GrM.refl _ _ _⟩
      · have e33 : f' 33 = _ := hd ⟨33, .data⟩ (by simp) rfl
        unfold Oper.wp
        go_simp
        exact ⟨_, (by first | (simp [upd, e33]; done) | (simp [upd, e33]; omega)), rfl, HG.out, GrM.refl _ _ _⟩
    · intro o ho f' w' k hk hG hd
      have hbw := HB1.out.rc (HR.out.trans hG.choose_spec.2.2.2 (fun _ _ e => e)) hgP
      have q13 := hbw.get 13 (by omega)
      rw [HY13.out] at q13
      have c13 : w'.cell? ⟨g, off + 13, none⟩ = some (.int .u8 y13.toNat) := q13.1
      have gl : g < w'.heap.size := q13.2
      obtain ⟨⟨x10, k10⟩, g10'⟩ := hG.cell 10 (by show 10 < 19; omega)
      obtain ⟨⟨x11, k11⟩, g11'⟩ := hG.cell 11 (by show 11 < 19; omega)
      obtain ⟨⟨x12, k12⟩, g12'⟩ := hG.cell 12 (by show 12 < 19; omega)
      obtain ⟨⟨x13, k13⟩, g13'⟩ := hG.cell 13 (by show 13 < 19; omega)
      have HG := Lib.hid hG
      have HBW := Lib.hid hbw
      clear hG hbw q13
      have e23 : f' 23 = _ := hd 23 (by omega)
      have e34 : f' 34 = _ := hd 34 (by omega)
      obtain ⟨G0, r0, z0⟩ := HG.out.st T13.out (by simp)
      have rr := r0
      have v26 := VM.stab (show VM P (pkA q4) [11] w' (f' 26) from hd 26 (by omega)) rr
      have v29 := VM.stab (show VM P (pkA q4) [10] w' (f' 29) from hd 29 (by omega)) rr
      have v32 := VM.stab (show VM P (pkA q4) [12] w' (f' 32) from hd 32 (by omega)) rr
      have vl : VM P (pkA q4) [13] _ undef := VM.cons z0 T13.out VM.nil
      have HF := Lib.hid (G0.fin (fun j hj v hv => by
        simp only [List.mem_cons, List.mem_nil_iff, or_false] at hj
        rcases hj with rfl | rfl | rfl | rfl
        · exact v29 10 (by simp) v hv
        · exact v26 11 (by simp) v hv
        · exact v32 12 (by simp) v hv
        · exact vl 13 (by simp) v hv) (fun j hj => by
        simp only [List.mem_cons, List.mem_nil_iff, or_false] at hj
        show j < 19
        omega))
      clear vl rr v26 v29 v32 r0 z0 G0
      replace ho := Option.some.inj ho
      subst ho
      unfold Oper.wp
      go_simp
      go_step
      go_meet
      exact HF.out
  case rest =>
  obtain ⟨hpb, hrc⟩ := hcut
  obtain ⟨W4, rfl⟩ : ∃ W4 : World, W4 = wc := ⟨_, rfl⟩
  have HR : Hid (Rchg (fun k => k = P) W1 W4) := Lib.hid (HR.out.trans hrc (fun _ _ e => e))
  clear HGS HPB
  have HPB := Lib.hid hpb
  clear hrc
  have hPl2 : P < W4.heap.size := lt_of_block hpb
  clear hPl1
  have hPl1 := hPl2
  clear hPl2
  clear hpb
  have c7 : W4.cell? ⟨P, 7, none⟩ = some (.int .i64 6) := (cell_of HPB.out 7).trans (by rw [HQ4.out]; rfl)
  have HQP : Hid ({ fieldsP p b with pA := A1, pn := n - 20, pc := c1 } = q4) := Lib.hid (by rw [HQ4.out, HQ0.out]; rfl)
  obtain ⟨hv, hhv⟩ : ∃ hv : Bool, (bytB b 13 / 16 % 2 == 1) = hv := ⟨_, rfl⟩
  obtain ⟨av, hav⟩ : ∃ av : Nat, takeN (subB b 8 12) = av := ⟨_, rfl⟩
  have c13 : W4.cell? ⟨P, 13, none⟩ = some (.bool hv) := (cell_of HPB.out 13).trans (by rw [HQ4.out, ← hhv]; rfl)
  have c15 : W4.cell? ⟨P, 15, none⟩ = some (.int .i64 av) := (cell_of HPB.out 15).trans (by rw [HQ4.out, ← hav]; rfl)
  have HOK : Hid (partOk p b = (!((((av : Nat) : Int) != 0) && !hv) && partP q4 (b.drop 20) == put2 b 16 0)) := Lib.hid (by
    rw [HQ4.out, HQ0.out, ← hav, ← hhv]
    unfold partOk
    rw [decide_eq_true (by rw [hl]; show 20 ≤ n; omega), Bool.true_and]
    rfl)
  clear hav hhv
  by_cases hav : av = 0
  · have e15 : ((av : Int) != 0) = false := by simp; omega
    have HOK : Hid (partOk p b = (partP q4 (b.drop 20) == put2 b 16 0)) := Lib.hid (by rw [HOK.out, hav]; rfl)
    clear hav
    have HR0 : Hid (PkR q4) := Lib.hid (by rw [← HQP.out]; exact (fields_r HBare.out (by rw [HPr.out]; rfl) b).pay _ _ _)
    have HPY : Hid (PayAt W4 q4 (b.drop 20)) := Lib.hid (by rw [← HQP.out]; exact ⟨HAT.out _ HR.out, by show (b.drop 20).length = n - 20; simp; omega, HNIL.out, by show n - 20 ≤ 5000; omega⟩)
    have HPRQ : Hid (q4.f.proto = 6) := Lib.hid (by rw [HQ4.out])
    have h5 := HPB.out
    go_upto_region 16 with (fail)
    first | refine load_step rfl h5 (by kernel_rfl) (by kernel_rfl) ?_ | (go_step; first | refine load_step rfl h5 (by kernel_rfl) (by kernel_rfl) ?_ | (go_step; first | refine load_step rfl h5 (by kernel_rfl) (by kernel_rfl) ?_ | (go_step; first | refine load_step rfl h5 (by kernel_rfl) (by kernel_rfl) ?_ | (go_step; first | refine load_step rfl h5 (by kernel_rfl) (by kernel_rfl) ?_ | (go_step; first | refine load_step rfl h5 (by kernel_rfl) (by kernel_rfl) ?_ | (go_step; first | refine load_step rfl h5 (by kernel_rfl) (by kernel_rfl) ?_ | (go_step; first | refine load_step rfl h5 (by kernel_rfl) (by kernel_rfl) ?_ | (go_step; first | refine load_step rfl h5 (by kernel_rfl) (by kernel_rfl) ?_ | (go_step; first | refine load_step rfl h5 (by kernel_rfl) (by kernel_rfl) ?_ | (go_step; refine load_step rfl h5 (by kernel_rfl) (by kernel_rfl) ?_))))))))))
    clear h5
    go_wp2_with fail
    refine (partOf_any q4 HR0.out (b.drop 20) W4 HPY.out).mono ?_
    rintro e W6 ⟨A6, n6, cap6, rfl, ho6, hb6⟩
    have HB6 := Lib.hid (HB1.out.rc ((HR.out).bl hb6) hgP)
    have HBL6 := Lib.hid hb6
    have HO6 := Lib.hid ho6
    clear ho6 hb6
    go_wp2_with fail
    refine (cloneB_any g off n cap b W6 HB6.out hl (by omega)).mono ?_
    rintro e W7 ⟨A7, cap7, rfl, ho7, hb7⟩
    obtain ⟨g7, rfl, hg7, hg7l, hn7⟩ := ho7.ex (by omega)
    have hP7 := ((HBL6.out.trans (hb7.mono HBL6.out.size)).block P hPl1).trans HPB.out
    have hPl7 : P < W7.heap.size := lt_of_block hP7
    have c7 : W7.cell? ⟨P, 7, none⟩ = some (.int .i64 6) := (cell_of hP7 7).trans (by rw [HQ4.out]; rfl)
    obtain ⟨x1, hx1⟩ := ho7.cell 16 (by omega)
    obtain ⟨x2, hx2⟩ := ho7.cell 17 (by omega)
    have f1 := ho7.froz 16
    have f2 := ho7.froz 17
    have ma : (16 : Int) < (n : Int) := by omega
    have mb : (17 : Int) < (n : Int) := by omega
    have HO8 : Hid (bAt ((W7.setCell ⟨g7, 16, none⟩ (.int .u8 0)).setCell ⟨g7, 17, none⟩ (.int .u8 0)) (some ⟨g7, 0, none⟩) (put2 b 16 0)) := Lib.hid (((ho7.put 16 0).put 17 0).at_)
    have HB68 : Hid (Below W6.heap.size W6 ((W7.setCell ⟨g7, 16, none⟩ (.int .u8 0)).setCell ⟨g7, 17, none⟩ (.int .u8 0))) := Lib.hid (bl_setAt (bl_setAt hb7 hg7) hg7)
    have hsm := fun W => sumAt_any 6 W
    have hsm : ∀ W, Calls Tryz.prog 22 #[.int .i64 6] W fun e w' => e = .returned (.int .i64 16) ∧ W = w' := hsm
    clear hb7 ho7 hP7
    go_wp2_with (refine (hsm _).mono ?_; rintro e w9 ⟨rfl, rfl⟩)
    generalize hW : World.setCell _ _ _ = W8 at HO8 HB68 ⊢
    clear hW hx1 hx2 f1 f2 c7
    have HL6 : Hid ((partP q4 (b.drop 20)).length = n6) := Lib.hid HO6.out.1
    have hn6 : n6 ≤ 100000 := by
      have h1 := (part_len q4 (b.drop 20)).2; rw [HL6.out] at h1
      have h2 : (b.drop 20).length ≤ n := by rw [List.length_drop]; omega
      omega
    have HL8 : Hid ((put2 b 16 0).length = n) := Lib.hid (by rw [put2_len]; exact hl)
    refine (equalB_any A6 (some ⟨g7, 0, none⟩) n6 n cap6 cap7 (partP q4 (b.drop 20)) (put2 b 16 0) W8 (HO6.out.at_.below HB68.out) HO8.out HL6.out HL8.out hn6).mono ?_
    rintro e W9 ⟨rfl, hb9⟩
    have HB9 : Hid (Below W4.heap.size W4 W9) := Lib.hid ((HBL6.out.trans (HB68.out.mono HBL6.out.size)).trans (hb9.mono (Nat.le_trans HBL6.out.size HB68.out.size)))
    have HBo : Hid (∃ bo : Bool, decide (partP q4 (b.drop 20) = put2 b 16 0) = bo) := Lib.hid ⟨_, rfl⟩
    obtain ⟨bo, hbo⟩ := HBo.out
    rw [hbo]
    have HBO : Hid (partOk p b = bo) := Lib.hid (by rw [HOK.out, ← hbo]; exact (Bool.beq_eq_decide_eq _ _))
    clear hb9 hbo
    go_wp2_with fail
    go_ret
    refine ⟨by rw [HBO.out]; rfl, fun _ => ⟨A1, c1, ?_, ?_⟩, HRC0.out.trans (HR.out.bl HB9.out) (fun _ _ e => e)⟩
    · rw [hl, show leastP p.f.proto = 20 from by rw [HPr.out]; rfl, HQP.out]
      exact (HB9.out.block P hPl1).trans HPB.out
    · rw [hl, show leastP p.f.proto = 20 from by rw [HPr.out]; rfl, HQP.out]
      exact HPY.out.below HB9.out
  · have e15 : ((av : Int) != 0) = true := by simp; omega
    cases hv
    · have HF : Hid (partOk p b = false) := Lib.hid (by rw [HOK.out, e15]; rfl)
      clear hav
      go_wp2_with fail
      go_ret
      exact ⟨by rw [HF.out]; rfl, fun c => absurd (c.symm.trans HF.out) (by decide), HRC0.out.trans HR.out (fun _ _ e => e)⟩
    · have HOK : Hid (partOk p b = (partP q4 (b.drop 20) == put2 b 16 0)) := Lib.hid (by rw [HOK.out]; simp)
      clear hav
      have HR0 : Hid (PkR q4) := Lib.hid (by rw [← HQP.out]; exact (fields_r HBare.out (by rw [HPr.out]; rfl) b).pay _ _ _)
      have HPY : Hid (PayAt W4 q4 (b.drop 20)) := Lib.hid (by rw [← HQP.out]; exact ⟨HAT.out _ HR.out, by show (b.drop 20).length = n - 20; simp; omega, HNIL.out, by show n - 20 ≤ 5000; omega⟩)
      have HPRQ : Hid (q4.f.proto = 6) := Lib.hid (by rw [HQ4.out])
      have h5 := HPB.out
      go_upto_region 16 with (fail)
      first | refine load_step rfl h5 (by kernel_rfl) (by kernel_rfl) ?_ | (go_step; first | refine load_step rfl h5 (by kernel_rfl) (by kernel_rfl) ?_ | (go_step; first | refine load_step rfl h5 (by kernel_rfl) (by kernel_rfl) ?_ | (go_step; first | refine load_step rfl h5 (by kernel_rfl) (by kernel_rfl) ?_ | (go_step; first | refine load_step rfl h5 (by kernel_rfl) (by kernel_rfl) ?_ | (go_step; first | refine load_step rfl h5 (by kernel_rfl) (by kernel_rfl) ?_ | (go_step; first | refine load_step rfl h5 (by kernel_rfl) (by kernel_rfl) ?_ | (go_step; first | refine load_step rfl h5 (by kernel_rfl) (by kernel_rfl) ?_ | (go_step; first | refine load_step rfl h5 (by kernel_rfl) (by kernel_rfl) ?_ | (go_step; first | refine load_step rfl h5 (by kernel_rfl) (by kernel_rfl) ?_ | (go_step; refine load_step rfl h5 (by kernel_rfl) (by kernel_rfl) ?_))))))))))
      clear h5
      go_wp2_with fail
      refine (partOf_any q4 HR0.out (b.drop 20) W4 HPY.out).mono ?_
      rintro e W6 ⟨A6, n6, cap6, rfl, ho6, hb6⟩
      have HB6 := Lib.hid (HB1.out.rc ((HR.out).bl hb6) hgP)
      have HBL6 := Lib.hid hb6
      have HO6 := Lib.hid ho6
      clear ho6 hb6
      go_wp2_with fail
      refine (cloneB_any g off n cap b W6 HB6.out hl (by omega)).mono ?_
      rintro e W7 ⟨A7, cap7, rfl, ho7, hb7⟩
      obtain ⟨g7, rfl, hg7, hg7l, hn7⟩ := ho7.ex (by omega)
      have hP7 := ((HBL6.out.trans (hb7.mono HBL6.out.size)).block P hPl1).trans HPB.out
      have hPl7 : P < W7.heap.size := lt_of_block hP7
      have c7 : W7.cell? ⟨P, 7, none⟩ = some (.int .i64 6) := (cell_of hP7 7).trans (by rw [HQ4.out]; rfl)
      obtain ⟨x1, hx1⟩ := ho7.cell 16 (by omega)
      obtain ⟨x2, hx2⟩ := ho7.cell 17 (by omega)
      have f1 := ho7.froz 16
      have f2 := ho7.froz 17
      have ma : (16 : Int) < (n : Int) := by omega
      have mb : (17 : Int) < (n : Int) := by omega
      have HO8 : Hid (bAt ((W7.setCell ⟨g7, 16, none⟩ (.int .u8 0)).setCell ⟨g7, 17, none⟩ (.int .u8 0)) (some ⟨g7, 0, none⟩) (put2 b 16 0)) := Lib.hid (((ho7.put 16 0).put 17 0).at_)
      have HB68 : Hid (Below W6.heap.size W6 ((W7.setCell ⟨g7, 16, none⟩ (.int .u8 0)).setCell ⟨g7, 17, none⟩ (.int .u8 0))) := Lib.hid (bl_setAt (bl_setAt hb7 hg7) hg7)
      have hsm := fun W => sumAt_any 6 W
      have hsm : ∀ W, Calls Tryz.prog 22 #[.int .i64 6] W fun e w' => e = .returned (.int .i64 16) ∧ W = w' := hsm
      clear hb7 ho7 hP7
      go_wp2_with (refine (hsm _).mono ?_; rintro e w9 ⟨rfl, rfl⟩)
      generalize hW : World.setCell _ _ _ = W8 at HO8 HB68 ⊢
      clear hW hx1 hx2 f1 f2 c7
      have HL6 : Hid ((partP q4 (b.drop 20)).length = n6) := Lib.hid HO6.out.1
      have hn6 : n6 ≤ 100000 := by
        have h1 := (part_len q4 (b.drop 20)).2; rw [HL6.out] at h1
        have h2 : (b.drop 20).length ≤ n := by rw [List.length_drop]; omega
        omega
      have HL8 : Hid ((put2 b 16 0).length = n) := Lib.hid (by rw [put2_len]; exact hl)
      refine (equalB_any A6 (some ⟨g7, 0, none⟩) n6 n cap6 cap7 (partP q4 (b.drop 20)) (put2 b 16 0) W8 (HO6.out.at_.below HB68.out) HO8.out HL6.out HL8.out hn6).mono ?_
      rintro e W9 ⟨rfl, hb9⟩
      have HB9 : Hid (Below W4.heap.size W4 W9) := Lib.hid ((HBL6.out.trans (HB68.out.mono HBL6.out.size)).trans (hb9.mono (Nat.le_trans HBL6.out.size HB68.out.size)))
      have HBo : Hid (∃ bo : Bool, decide (partP q4 (b.drop 20) = put2 b 16 0) = bo) := Lib.hid ⟨_, rfl⟩
      obtain ⟨bo, hbo⟩ := HBo.out
      rw [hbo]
      have HBO : Hid (partOk p b = bo) := Lib.hid (by rw [HOK.out, ← hbo]; exact (Bool.beq_eq_decide_eq _ _))
      clear hb9 hbo
      go_wp2_with fail
      go_ret
      refine ⟨by rw [HBO.out]; rfl, fun _ => ⟨A1, c1, ?_, ?_⟩, HRC0.out.trans (HR.out.bl HB9.out) (fun _ _ e => e)⟩
      · rw [hl, show leastP p.f.proto = 20 from by rw [HPr.out]; rfl, HQP.out]
        exact (HB9.out.block P hPl1).trans HPB.out
      · rw [hl, show leastP p.f.proto = 20 from by rw [HPr.out]; rfl, HQP.out]
        exact HPY.out.below HB9.out
set_option maxRecDepth 100000 in
set_option maxHeartbeats 4000000 in
theorem readPartUdp (s6 : Bool) (sh sl : Int) (t6 : Bool) (th tl hops : Int) (P g off n cap : Nat) (b : List UInt8) (w : World) (hb : bAt w (some ⟨g, off, none⟩) b) (hl : b.length = n) (hc : n ≤ cap) (hs : n ≤ 5000) (p : Pk) (hp : p = ⟨⟨17, s6, sh, sl, t6, th, tl, 0, 0⟩, hops, false, false, false, false, 0, 0, false, 0, none, 0, 0⟩) (hbare : Bare p) (hP : w.heap[P]? = some (.cells (pkA p) 31 (0, 0))) (hgP : g ≠ P) :
    Calls Tryz.prog 21 #[.pointer (some ⟨P, 0, none⟩), .slice (some ⟨g, off, none⟩) n cap] w (RpOut P w p b) := by
  have HQ0 := Lib.hid hp
  have HBare := Lib.hid hbare
  have HPr : Hid (p.f.proto = 17) := Lib.hid (by rw [hp])
  have HB0 := Lib.hid hb
  have hP0 := hP
  rw [hp] at hP0
  have c7 : w.cell? ⟨P, 7, none⟩ = some (.int .i64 17) := cell_of hP0 7
  have hPl : P < w.heap.size := lt_of_block hP
  by_cases hlt : n < 8
  · have d0 : decide ((n : Int) < 8) = true := by simp; omega
    have HF : Hid (partOk p b = false) := Lib.hid (by unfold partOk; rw [HPr.out, decide_eq_false (by rw [hl]; show ¬ 8 ≤ n; omega)]; rfl)
    clear hb hP hP0 hp hbare
    go_enter Tryz.func21, Tryz.ntmps21
    go_wp2_with fail
    go_ret
    exact ⟨by rw [HF.out]; rfl, fun c => absurd (c.symm.trans HF.out) (by decide), Rchg.here⟩
  have d0 : decide ((n : Int) < 8) = false := by simp; omega
  have HP0 : Hid (w.heap[P]? = some (.cells (pkA ⟨⟨17, s6, sh, sl, t6, th, tl, 0, 0⟩, hops, false, false, false, false, 0, 0, false, 0, none, 0, 0⟩) 31 (0, 0))) := Lib.hid hP0
  clear hb hP hP0 hp hbare
  have d1 : (8 : Int) ≤ (n : Int) := by omega
  have d1c : (8 : Int) ≤ (cap : Int) := by omega
  go_enter Tryz.func21, Tryz.ntmps21
  go_upto_region 6 with (fail)
  clear c7
  go_cut [] from 18 to 24 (fun wc => ∃ A1 c1, wc.heap[P]? = some (.cells (pkA ⟨⟨17, s6, sh, sl, t6, th, tl, 0, 0⟩, hops, false, false, false, false, 0, 0, false, 0, A1, n - 8, c1⟩) 31 (0, 0)) ∧ Rchg (fun k => k = P) w wc ∧ (∀ W : World, Rchg (fun k => k = P) wc W → bAt W A1 (b.drop 8)) ∧ (A1 = none → c1 = 0))
  case first =>
    have HLD : Hid ((b.drop 8).length = n - 8) := Lib.hid (by simp; omega)
    by_cases hcl : cap = 8
    · obtain rfl : n = 8 := by omega
      subst hcl
      have hcb := fun W (h : bAt W (some ⟨g, off, none⟩) (b.drop 8)) => cloneB_any g off 0 0 (b.drop 8) W h (by have := HLD.out; omega) (by omega)
      have HE : Hid (∀ W : World, bAt W (some ⟨g, off, none⟩) (b.drop 8)) := Lib.hid (fun W i c hc => by rw [List.drop_of_length_le (by omega)] at hc; cases hc)
      go_wp2_with fail
      refine (hcb _ (HE.out _)).mono ?_
      rintro e W1 ⟨A1, c1, rfl, ho1, hb1⟩
      have hp1 := (hb1.block P hPl).trans HP0.out
      have c18 : W1.cell? ⟨P, 18, none⟩ = some (.slice none 0 0) := cell_of hp1 18
      have f18 : W1.frozen? ⟨P, 18, none⟩ = false := by simp [World.frozen?, hp1]
      have hPl1 : P < W1.heap.size := lt_of_block hp1
      have HFI := Lib.hid (And.intro (heap_set hp1 18 (.slice A1 0 c1)) (And.intro (Rchg.set (Rchg.of_below (F := fun k => k = P) hb1) (fun _ => rfl) 18 (.slice A1 0 c1)) (ho1.payF hPl (.slice A1 0 c1) 18)))
      clear hcb hb1 ho1 hp1
      go_wp2_with fail
      go_meet
      exact ⟨A1, c1, HFI.out.1, HFI.out.2.1, HFI.out.2.2.1, HFI.out.2.2.2⟩
    · have hcb := fun W (h : bAt W (some ⟨g, off + 8, none⟩) (b.drop 8)) => cloneB_any g (off + 8) (n - 8) (cap - 8) (b.drop 8) W h HLD.out (by omega)
      go_wp2_with fail
      refine (hcb _ (HB0.out.drop 8)).mono ?_
      rintro e W1 ⟨A1, c1, rfl, ho1, hb1⟩
      have hp1 := (hb1.block P hPl).trans HP0.out
      have c18 : W1.cell? ⟨P, 18, none⟩ = some (.slice none 0 0) := cell_of hp1 18
      have f18 : W1.frozen? ⟨P, 18, none⟩ = false := by simp [World.frozen?, hp1]
      have hPl1 : P < W1.heap.size := lt_of_block hp1
      have HFI := Lib.hid (And.intro (heap_set hp1 18 (.slice A1 (n - 8) c1)) (And.intro (Rchg.set (Rchg.of_below (F := fun k => k = P) hb1) (fun _ => rfl) 18 (.slice A1 (n - 8) c1)) (ho1.payF hPl (.slice A1 (n - 8) c1) 18)))
      clear hcb hb1 ho1 hp1
      go_wp2_with fail
      go_meet
      exact ⟨A1, c1, HFI.out.1, HFI.out.2.1, HFI.out.2.2.1, HFI.out.2.2.2⟩
  case rest =>
  obtain ⟨A1, c1, hpb, hrc, hat, hnil⟩ := hcut
  obtain ⟨W1, rfl⟩ : ∃ W1 : World, W1 = wc := ⟨_, rfl⟩
  have HB1 := Lib.hid (HB0.out.rc hrc hgP)
  have HRC0 := Lib.hid hrc
  have HAT := Lib.hid hat
  have HNIL := Lib.hid hnil
  have HR : Hid (Rchg (fun k => k = P) W1 W1) := Lib.hid Rchg.here
  obtain ⟨q1, hq1⟩ : ∃ q1 : Pk, q1 = ⟨⟨17, s6, sh, sl, t6, th, tl, 0, 0⟩, hops, false, false, false, false, 0, 0, false, 0, A1, n - 8, c1⟩ := ⟨_, rfl⟩
  rw [← hq1] at hpb
  have HQ1 := Lib.hid hq1
  have HPB := Lib.hid hpb
  have c7 : W1.cell? ⟨P, 7, none⟩ = some (.int .i64 17) := (cell_of hpb 7).trans (by rw [hq1]; rfl)
  have hPl1 : P < W1.heap.size := lt_of_block hpb
  clear hpb hrc hat hnil hq1
  have sw0 : IntKind.i64.wrap ((takeN (subB b 0 2) : Nat) : Int) = ((takeN (subB b 0 2) : Nat) : Int) := IntWalk.i64_in _ (by have h : 0 ≤ numB b 0 2 ∧ numB b 0 2 ≤ 65535 := num2 b 0; unfold numB at h; omega)
  have sw2 : IntKind.i64.wrap ((takeN (subB b 2 4) : Nat) : Int) = ((takeN (subB b 2 4) : Nat) : Int) := IntWalk.i64_in _ (by have h : 0 ≤ numB b 2 4 ∧ numB b 2 4 ≤ 65535 := num2 b 2; unfold numB at h; omega)
  have cd2 : (2 : Int) ≤ (cap : Int) := by omega
  have cn2 : 2 ≤ cap := by omega
  have nc2 : ¬ cap = 2 := by omega
  have md2 : (2 : Int) < (n : Int) := by omega
  have cd4 : (4 : Int) ≤ (cap : Int) := by omega
  have cn4 : 4 ≤ cap := by omega
  have nc4 : ¬ cap = 4 := by omega
  have md4 : (4 : Int) < (n : Int) := by omega
  obtain ⟨q2, hq2⟩ : ∃ q2 : Pk, q2 = ⟨⟨17, s6, sh, sl, t6, th, tl, (numB b 0 2), (numB b 2 4)⟩, hops, false, false, false, false, 0, 0, false, 0, A1, n - 8, c1⟩ := ⟨_, rfl⟩
  have HQ2 := Lib.hid hq2
  clear hq2
  have HGS : Hid (GM W1 P 31 (pkA q2) [8, 9] W1.drew) := Lib.hid (GM.start HPB.out rfl (fun i hi => by
    simp only [List.mem_cons, List.mem_nil_iff, or_false, not_or] at hi
    rw [HQ1.out, HQ2.out]
    rcases i with _ | _ | _ | _ | _ | _ | _ | _ | _ | _ | _ | _ | _ | _ | _ | _ | _ | _ | _ | i <;> first | rfl | (exfalso; omega)))
  have T8 : Hid ((pkA q2)[8]? = some (.int .i64 (takeN (subB b 0 2)))) := Lib.hid (by rw [HQ2.out]; rfl)
  have T9 : Hid ((pkA q2)[9]? = some (.int .i64 (takeN (subB b 2 4)))) := Lib.hid (by rw [HQ2.out]; rfl)
  go_upto_region 10 with (fail)
  go_cut [] from 57 to 70 (fun wc => wc.heap[P]? = some (.cells (pkA q2) 31 (0, 0)) ∧ Rchg (fun k => k = P) W1 wc)
  case first =>
    refine wp_region_drawn 15 (fun f' => ⟨#[.pointer (some ⟨P, 0, none⟩), .slice (some ⟨g, off, none⟩) n cap, undef, undef, .bool false, .int .i64 8, undef, undef, undef, .pointer (some ⟨P, 0, none⟩), .pointer (some ⟨P, 0, none⟩), .pointer (some ⟨P, 7, none⟩), .int .i64 17, .bool false, .slice (some ⟨g, off, none⟩) n cap, .int .i64 n, .int .i64 8, .bool false, u18, u19, u20, u21, u22, u23, u24, .pointer (some ⟨P, 0, none⟩), .pointer (some ⟨P, 0, none⟩), .pointer (some ⟨P, 7, none⟩), .int .i64 17, .bool false, undef, undef, undef, undef, undef, undef, undef, undef, undef, undef, undef, undef, undef, undef, undef, undef, undef, undef, undef, undef, undef, undef, undef, undef, undef, undef, undef, f' 0, f' 1, f' 2, f' 3, f' 4, f' 5, f' 6, f' 7, f' 8, f' 9, f' 10, f' 11, f' 13, f' 14, undef, undef, undef, undef, undef, undef, undef, undef, undef, undef, undef, undef, undef, undef, undef, undef, undef, undef, undef, undef, undef, undef, undef, undef, undef, undef, undef, undef, undef, undef, undef, undef, undef, undef, undef, undef, undef, undef, undef, undef, undef, undef, undef, undef, undef, undef, undef, undef, undef, undef, undef, undef, undef, undef, undef, undef, undef, undef, undef, undef, undef, undef, undef, undef, undef, undef, undef, undef, undef, undef, undef, undef, undef, undef, undef, undef, undef, undef, undef, undef, undef, undef, undef, undef], []⟩) (VL [VIs (.pointer (some ⟨P, 0, none⟩)), VIs (.pointer (some ⟨P, 0, none⟩)), VIs (.slice (some ⟨g, off, none⟩) n cap), VIs (.slice (some ⟨g, off, none⟩) 2 cap), VIs (.int .u64 (takeN (subB b 0 2))), VIs (.int .i64 (takeN (subB b 0 2))), VIs (.slice (some ⟨g, off, none⟩) n cap), VIs (.slice (some ⟨g, off + 2, none⟩) 2 (cap - 2)), VIs (.int .u64 (takeN (subB b 2 4))), VIs (.int .i64 (takeN (subB b 2 4))), VIs (.pointer (some ⟨P, 0, none⟩)), VIs (.pointer (some ⟨P, 8, none⟩)), VM P (pkA q2) [8], VIs (.pointer (some ⟨P, 0, none⟩)), VIs (.pointer (some ⟨P, 9, none⟩))]) (fun _ w' => GM W1 P 31 (pkA q2) [8, 9] w') (GrM P (pkA q2)) (fun _ => undef) (show Tryz.prog.follows .mixedOrders = true from by kernel_rfl) (by kernel_rfl) ?_ ?_ ?_ (HGS.out)
    · exact fun i w w' v h hg => VL.stabG (Gr := GrM P (pkA q2)) (by
        intro q hq w w' v hv hg
        simp only [List.mem_cons, List.mem_nil_iff, or_false] at hq
        rcases hq with rfl | rfl | rfl | rfl | rfl | rfl | rfl | rfl | rfl | rfl | rfl | rfl | rfl | rfl | rfl <;> first | exact hv | (exact VM.stab hv hg)) i w w' v h hg
    · intro i o hi ho f' w' k hk hG hd
      have hbw := HB1.out.rc (HR.out.trans hG.choose_spec.2.2.2 (fun _ _ e => e)) hgP
      obtain ⟨⟨x8, k8⟩, g8'⟩ := hG.cell 8 (by show 8 < 19; omega)
      obtain ⟨⟨x9, k9⟩, g9'⟩ := hG.cell 9 (by show 9 < 19; omega)
      have HG := Lib.hid hG
      have HBW := Lib.hid hbw
      clear hG hbw 
      have hcase : i = 0 ∨ i = 1 ∨ i = 2 ∨ i = 3 ∨ i = 4 ∨ i = 5 ∨ i = 6 ∨ i = 7 ∨ i = 8 ∨ i = 9 ∨ i = 10 ∨ i = 11 ∨ i = 12 ∨ i = 13 ∨ i = 14 := by omega
      rcases hcase with rfl | rfl | rfl | rfl | rfl | rfl | rfl | rfl | rfl | rfl | rfl | rfl | rfl | rfl | rfl <;> (replace ho := Option.some.inj ho; subst ho)
      · unfold Oper.wp
        go_simp
        exact ⟨_, (by first | (simp [upd]; done) | (simp [upd]; omega)), rfl, HG.out, GrM.refl _ _ _⟩
      · unfold Oper.wp
        go_simp
        exact ⟨_, (by first | (simp [upd]; done) | (simp [upd]; omega)), rfl, HG.out, GrM.refl _ _ _⟩
      · unfold Oper.wp
        go_simp
        exact ⟨_, (by first | (simp [upd]; done) | (simp [upd]; omega)), rfl, HG.out, GrM.refl _ _ _⟩
      · have e2 : f' 2 = _ := hd ⟨2, .data⟩ (by simp) rfl
        unfold Oper.wp
        go_simp
        exact ⟨_, (by simp [upd, e2]), rfl, HG.out, GrM.refl _ _ _⟩
      · have e3 : f' 3 = _ := hd ⟨3, .data⟩ (by simp) rfl
        unfold Oper.wp
        go_simp
        refine (take_sub g off cap b 0 2 w' HBW.out (by omega) (by omega)).mono ?_
        rintro e w9 ⟨rfl, rfl⟩
        exact ⟨_, (by simp [upd, e3]), rfl, HG.out, GrM.refl _ _ _⟩
      · have e4 : f' 4 = _ := hd ⟨4, .data⟩ (by simp) rfl
        unfold Oper.wp
        go_simp
        exact ⟨_, (by first | (simp [upd, e4]; done) | (simp [upd, e4]; omega)), rfl, HG.out, GrM.refl _ _ _⟩
      · unfold Oper.wp
        go_simp
        exact ⟨_, (by first | (simp [upd]; done) | (simp [upd]; omega)), rfl, HG.out, GrM.refl _ _ _⟩
      · have e6 : f' 6 = _ := hd ⟨6, .data⟩ (by simp) rfl
        unfold Oper.wp
        go_simp
        exact ⟨_, (by simp [upd, e6]), rfl, HG.out, GrM.refl _ _ _⟩
      · have e7 : f' 7 = _ := hd ⟨7, .data⟩ (by simp) rfl
        unfold Oper.wp
        go_simp
        refine (take_sub g off (cap - 2) b 2 2 w' HBW.out (by omega) (by omega)).mono ?_
        rintro e w9 ⟨rfl, rfl⟩
        exact ⟨_, (by simp [upd, e7]), rfl, HG.out, GrM.refl _ _ _⟩
      · have e8 : f' 8 = _ := hd ⟨8, .data⟩ (by simp) rfl
        unfold Oper.wp
        go_simp
        exact ⟨_, (by first | (simp [upd, e8]; done) | (simp [upd, e8]; omega)), rfl, HG.out, GrM.refl _ _ _⟩
      · have e0 : f' 0 = _ := hd ⟨0, .data⟩ (by simp) rfl
        unfold Oper.wp
        go_simp
        exact ⟨_, (by first | (simp [upd, e0]; done) | (simp [upd, e0]; omega)), rfl, HG.out, GrM.refl _ _ _⟩
      · have e10 : f' 10 = _ := hd ⟨10, .data⟩ (by simp) rfl
        unfold Oper.wp
        go_simp
        exact ⟨_, (by first | (simp [upd, e10]; done) | (simp [upd, e10]; omega)), rfl, HG.out, GrM.refl _ _ _⟩
      · have e5 : f' 5 = _ := hd ⟨5, .data⟩ (by simp) rfl
        have e11 : f' 11 = _ := hd ⟨11, .data⟩ (by simp) rfl
        unfold Oper.wp
        go_simp
        obtain ⟨G0, r0, z0⟩ := HG.out.st T8.out (by simp)
        exact ⟨undef, (by simp [upd, e5, e11]), VM.cons (v := undef) z0 T8.out VM.nil, G0, r0⟩
      · have e1 : f' 1 = _ := hd ⟨1, .data⟩ (by simp) rfl
        unfold Oper.wp
        go_simp
        exact ⟨_, (by first | (simp [upd, e1]; done) | (simp [upd, e1]; omega)), rfl, HG.out, GrM.refl _ _ _⟩
      · have e13 : f' 13 = _ := hd ⟨13, .data⟩ (by simp) rfl
        unfold Oper.wp
        go_simp
        exact ⟨_, (by first | (simp [upd, e13]; done) | (simp [upd, e13]; omega)), rfl, HG.out, GrM.refl _ _ _⟩
    · intro o ho f' w' k hk hG hd
      have hbw := HB1.out.rc (HR.out.trans hG.choose_spec.2.2.2 (fun _ _ e => e)) hgP
      obtain ⟨⟨x8, k8⟩, g8'⟩ := hG.cell 8 (by show 8 < 19; omega)
      obtain ⟨⟨x9, k9⟩, g9'⟩ := hG.cell 9 (by show 9 < 19; omega)
      have HG := Lib.hid hG
      have HBW := Lib.hid hbw
      clear hG hbw 
      have e9 : f' 9 = _ := hd 9 (by omega)
      have e14 : f' 14 = _ := hd 14 (by omega)
      obtain ⟨G0, r0, z0⟩ := HG.out.st T9.out (by simp)
      have rr := r0
      have v12 := VM.stab (show VM P (pkA q2) [8] w' (f' 12) from hd 12 (by omega)) rr
      have vl : VM P (pkA q2) [9] _ undef := VM.cons z0 T9.out VM.nil
      have HF := Lib.hid (G0.fin (fun j hj v hv => by
        simp only [List.mem_cons, List.mem_nil_iff, or_false] at hj
        rcases hj with rfl | rfl
        · exact v12 8 (by simp) v hv
        · exact vl 9 (by simp) v hv) (fun j hj => by
        simp only [List.mem_cons, List.mem_nil_iff, or_false] at hj
        show j < 19
        omega))
      clear vl rr v12 r0 z0 G0
      replace ho := Option.some.inj ho
      subst ho
      unfold Oper.wp
      go_simp
      go_step
      go_meet
      exact HF.out
  case rest =>
  obtain ⟨hpb, hrc⟩ := hcut
  obtain ⟨W2, rfl⟩ : ∃ W2 : World, W2 = wc := ⟨_, rfl⟩
  have HR : Hid (Rchg (fun k => k = P) W1 W2) := Lib.hid (HR.out.trans hrc (fun _ _ e => e))
  clear HGS HPB
  have HPB := Lib.hid hpb
  clear hrc
  have hPl2 : P < W2.heap.size := lt_of_block hpb
  clear hPl1
  have hPl1 := hPl2
  clear hPl2
  clear hpb c7
  have c7 : W2.cell? ⟨P, 7, none⟩ = some (.int .i64 17) := (cell_of HPB.out 7).trans (by rw [HQ2.out]; rfl)
  have HQP : Hid ({ fieldsP p b with pA := A1, pn := n - 8, pc := c1 } = q2) := Lib.hid (by rw [HQ2.out, HQ0.out]; rfl)
  have HOK : Hid (partOk p b = (partP q2 (b.drop 8) == put2 b 6 0)) := Lib.hid (by
    rw [HQ2.out, HQ0.out]
    unfold partOk
    rw [decide_eq_true (by rw [hl]; show 8 ≤ n; omega), Bool.true_and]
    rfl)
  have HR0 : Hid (PkR q2) := Lib.hid (by rw [← HQP.out]; exact (fields_r HBare.out (by rw [HPr.out]; rfl) b).pay _ _ _)
  have HPY : Hid (PayAt W2 q2 (b.drop 8)) := Lib.hid (by rw [← HQP.out]; exact ⟨HAT.out _ HR.out, by show (b.drop 8).length = n - 8; simp; omega, HNIL.out, by show n - 8 ≤ 5000; omega⟩)
  have HPRQ : Hid (q2.f.proto = 17) := Lib.hid (by rw [HQ2.out])
  have h5 := HPB.out
  go_upto_region 16 with (fail)
  first | refine load_step rfl h5 (by kernel_rfl) (by kernel_rfl) ?_ | (go_step; first | refine load_step rfl h5 (by kernel_rfl) (by kernel_rfl) ?_ | (go_step; first | refine load_step rfl h5 (by kernel_rfl) (by kernel_rfl) ?_ | (go_step; first | refine load_step rfl h5 (by kernel_rfl) (by kernel_rfl) ?_ | (go_step; first | refine load_step rfl h5 (by kernel_rfl) (by kernel_rfl) ?_ | (go_step; first | refine load_step rfl h5 (by kernel_rfl) (by kernel_rfl) ?_ | (go_step; first | refine load_step rfl h5 (by kernel_rfl) (by kernel_rfl) ?_ | (go_step; first | refine load_step rfl h5 (by kernel_rfl) (by kernel_rfl) ?_ | (go_step; first | refine load_step rfl h5 (by kernel_rfl) (by kernel_rfl) ?_ | (go_step; first | refine load_step rfl h5 (by kernel_rfl) (by kernel_rfl) ?_ | (go_step; refine load_step rfl h5 (by kernel_rfl) (by kernel_rfl) ?_))))))))))
  clear h5
  go_wp2_with fail
  refine (partOf_any q2 HR0.out (b.drop 8) W2 HPY.out).mono ?_
  rintro e W6 ⟨A6, n6, cap6, rfl, ho6, hb6⟩
  have HB6 := Lib.hid (HB1.out.rc ((HR.out).bl hb6) hgP)
  have HBL6 := Lib.hid hb6
  have HO6 := Lib.hid ho6
  clear ho6 hb6
  go_wp2_with fail
  refine (cloneB_any g off n cap b W6 HB6.out hl (by omega)).mono ?_
  rintro e W7 ⟨A7, cap7, rfl, ho7, hb7⟩
  obtain ⟨g7, rfl, hg7, hg7l, hn7⟩ := ho7.ex (by omega)
  have hP7 := ((HBL6.out.trans (hb7.mono HBL6.out.size)).block P hPl1).trans HPB.out
  have hPl7 : P < W7.heap.size := lt_of_block hP7
  have c7 : W7.cell? ⟨P, 7, none⟩ = some (.int .i64 17) := (cell_of hP7 7).trans (by rw [HQ2.out]; rfl)
  obtain ⟨x1, hx1⟩ := ho7.cell 6 (by omega)
  obtain ⟨x2, hx2⟩ := ho7.cell 7 (by omega)
  have f1 := ho7.froz 6
  have f2 := ho7.froz 7
  have ma : (6 : Int) < (n : Int) := by omega
  have mb : (7 : Int) < (n : Int) := by omega
  have HO8 : Hid (bAt ((W7.setCell ⟨g7, 6, none⟩ (.int .u8 0)).setCell ⟨g7, 7, none⟩ (.int .u8 0)) (some ⟨g7, 0, none⟩) (put2 b 6 0)) := Lib.hid (((ho7.put 6 0).put 7 0).at_)
  have HB68 : Hid (Below W6.heap.size W6 ((W7.setCell ⟨g7, 6, none⟩ (.int .u8 0)).setCell ⟨g7, 7, none⟩ (.int .u8 0))) := Lib.hid (bl_setAt (bl_setAt hb7 hg7) hg7)
  have hsm := fun W => sumAt_any 17 W
  have hsm : ∀ W, Calls Tryz.prog 22 #[.int .i64 17] W fun e w' => e = .returned (.int .i64 6) ∧ W = w' := hsm
  clear hb7 ho7 hP7
  go_wp2_with (refine (hsm _).mono ?_; rintro e w9 ⟨rfl, rfl⟩)
  generalize hW : World.setCell _ _ _ = W8 at HO8 HB68 ⊢
  clear hW hx1 hx2 f1 f2 c7
  have HL6 : Hid ((partP q2 (b.drop 8)).length = n6) := Lib.hid HO6.out.1
  have hn6 : n6 ≤ 100000 := by
    have h1 := (part_len q2 (b.drop 8)).2; rw [HL6.out] at h1
    have h2 : (b.drop 8).length ≤ n := by rw [List.length_drop]; omega
    omega
  have HL8 : Hid ((put2 b 6 0).length = n) := Lib.hid (by rw [put2_len]; exact hl)
  refine (equalB_any A6 (some ⟨g7, 0, none⟩) n6 n cap6 cap7 (partP q2 (b.drop 8)) (put2 b 6 0) W8 (HO6.out.at_.below HB68.out) HO8.out HL6.out HL8.out hn6).mono ?_
  rintro e W9 ⟨rfl, hb9⟩
  have HB9 : Hid (Below W2.heap.size W2 W9) := Lib.hid ((HBL6.out.trans (HB68.out.mono HBL6.out.size)).trans (hb9.mono (Nat.le_trans HBL6.out.size HB68.out.size)))
  have HBo : Hid (∃ bo : Bool, decide (partP q2 (b.drop 8) = put2 b 6 0) = bo) := Lib.hid ⟨_, rfl⟩
  obtain ⟨bo, hbo⟩ := HBo.out
  rw [hbo]
  have HBO : Hid (partOk p b = bo) := Lib.hid (by rw [HOK.out, ← hbo]; exact (Bool.beq_eq_decide_eq _ _))
  clear hb9 hbo
  go_wp2_with fail
  go_ret
  refine ⟨by rw [HBO.out]; rfl, fun _ => ⟨A1, c1, ?_, ?_⟩, HRC0.out.trans (HR.out.bl HB9.out) (fun _ _ e => e)⟩
  · rw [hl, show leastP p.f.proto = 8 from by rw [HPr.out]; rfl, HQP.out]
    exact (HB9.out.block P hPl1).trans HPB.out
  · rw [hl, show leastP p.f.proto = 8 from by rw [HPr.out]; rfl, HQP.out]
    exact HPY.out.below HB9.out
set_option maxRecDepth 100000 in
set_option maxHeartbeats 4000000 in
theorem readPartIcmp (s6 : Bool) (sh sl : Int) (t6 : Bool) (th tl hops : Int) (P g off n cap : Nat) (b : List UInt8) (w : World) (hb : bAt w (some ⟨g, off, none⟩) b) (hl : b.length = n) (hc : n ≤ cap) (hs : n ≤ 5000) (p : Pk) (hp : p = ⟨⟨1, s6, sh, sl, t6, th, tl, 0, 0⟩, hops, false, false, false, false, 0, 0, false, 0, none, 0, 0⟩) (hbare : Bare p) (hP : w.heap[P]? = some (.cells (pkA p) 31 (0, 0))) (hgP : g ≠ P) :
    Calls Tryz.prog 21 #[.pointer (some ⟨P, 0, none⟩), .slice (some ⟨g, off, none⟩) n cap] w (RpOut P w p b) := by
  have HQ0 := Lib.hid hp
  have HBare := Lib.hid hbare
  have HPr : Hid (p.f.proto = 1) := Lib.hid (by rw [hp])
  have HB0 := Lib.hid hb
  have hP0 := hP
  rw [hp] at hP0
  have c7 : w.cell? ⟨P, 7, none⟩ = some (.int .i64 1) := cell_of hP0 7
  have hPl : P < w.heap.size := lt_of_block hP
  by_cases hlt : n < 8
  · have d0 : decide ((n : Int) < 8) = true := by simp; omega
    have HF : Hid (partOk p b = false) := Lib.hid (by unfold partOk; rw [HPr.out, decide_eq_false (by rw [hl]; show ¬ 8 ≤ n; omega)]; rfl)
    clear hb hP hP0 hp hbare
    go_enter Tryz.func21, Tryz.ntmps21
    go_wp2_with fail
    go_ret
    exact ⟨by rw [HF.out]; rfl, fun c => absurd (c.symm.trans HF.out) (by decide), Rchg.here⟩
  have d0 : decide ((n : Int) < 8) = false := by simp; omega
  have HP0 : Hid (w.heap[P]? = some (.cells (pkA ⟨⟨1, s6, sh, sl, t6, th, tl, 0, 0⟩, hops, false, false, false, false, 0, 0, false, 0, none, 0, 0⟩) 31 (0, 0))) := Lib.hid hP0
  clear hb hP hP0 hp hbare
  have d1 : (8 : Int) ≤ (n : Int) := by omega
  have d1c : (8 : Int) ≤ (cap : Int) := by omega
  go_enter Tryz.func21, Tryz.ntmps21
  go_upto_region 6 with (fail)
  clear c7
  go_cut [] from 18 to 24 (fun wc => ∃ A1 c1, wc.heap[P]? = some (.cells (pkA ⟨⟨1, s6, sh, sl, t6, th, tl, 0, 0⟩, hops, false, false, false, false, 0, 0, false, 0, A1, n - 8, c1⟩) 31 (0, 0)) ∧ Rchg (fun k => k = P) w wc ∧ (∀ W : World, Rchg (fun k => k = P) wc W → bAt W A1 (b.drop 8)) ∧ (A1 = none → c1 = 0))
  case first =>
    have HLD : Hid ((b.drop 8).length = n - 8) := Lib.hid (by simp; omega)
    by_cases hcl : cap = 8
    · obtain rfl : n = 8 := by omega
      subst hcl
      have hcb := fun W (h : bAt W (some ⟨g, off, none⟩) (b.drop 8)) => cloneB_any g off 0 0 (b.drop 8) W h (by have := HLD.out; omega) (by omega)
      have HE : Hid (∀ W : World, bAt W (some ⟨g, off, none⟩) (b.drop 8)) := Lib.hid (fun W i c hc => by rw [List.drop_of_length_le (by omega)] at hc; cases hc)
      go_wp2_with fail
      refine (hcb _ (HE.out _)).mono ?_
      rintro e W1 ⟨A1, c1, rfl, ho1, hb1⟩
      have hp1 := (hb1.block P hPl).trans HP0.out
      have c18 : W1.cell? ⟨P, 18, none⟩ = some (.slice none 0 0) := cell_of hp1 18
      have f18 : W1.frozen? ⟨P, 18, none⟩ = false := by simp [World.frozen?, hp1]
      have hPl1 : P < W1.heap.size := lt_of_block hp1
      have HFI := Lib.hid (And.intro (heap_set hp1 18 (.slice A1 0 c1)) (And.intro (Rchg.set (Rchg.of_below (F := fun k => k = P) hb1) (fun _ => rfl) 18 (.slice A1 0 c1)) (ho1.payF hPl (.slice A1 0 c1) 18)))
      clear hcb hb1 ho1 hp1
      go_wp2_with fail
      go_meet
      exact ⟨A1, c1, HFI.out.1, HFI.out.2.1, HFI.out.2.2.1, HFI.out.2.2.2⟩
    · have hcb := fun W (h : bAt W (some ⟨g, off + 8, none⟩) (b.drop 8)) => cloneB_any g (off + 8) (n - 8) (cap - 8) (b.drop 8) W h HLD.out (by omega)
      go_wp2_with fail
      refine (hcb _ (HB0.out.drop 8)).mono ?_
      rintro e W1 ⟨A1, c1, rfl, ho1, hb1⟩
      have hp1 := (hb1.block P hPl).trans HP0.out
      have c18 : W1.cell? ⟨P, 18, none⟩ = some (.slice none 0 0) := cell_of hp1 18
      have f18 : W1.frozen? ⟨P, 18, none⟩ = false := by simp [World.frozen?, hp1]
      have hPl1 : P < W1.heap.size := lt_of_block hp1
      have HFI := Lib.hid (And.intro (heap_set hp1 18 (.slice A1 (n - 8) c1)) (And.intro (Rchg.set (Rchg.of_below (F := fun k => k = P) hb1) (fun _ => rfl) 18 (.slice A1 (n - 8) c1)) (ho1.payF hPl (.slice A1 (n - 8) c1) 18)))
      clear hcb hb1 ho1 hp1
      go_wp2_with fail
      go_meet
      exact ⟨A1, c1, HFI.out.1, HFI.out.2.1, HFI.out.2.2.1, HFI.out.2.2.2⟩
  case rest =>
  obtain ⟨A1, c1, hpb, hrc, hat, hnil⟩ := hcut
  obtain ⟨W1, rfl⟩ : ∃ W1 : World, W1 = wc := ⟨_, rfl⟩
  have HB1 := Lib.hid (HB0.out.rc hrc hgP)
  have HRC0 := Lib.hid hrc
  have HAT := Lib.hid hat
  have HNIL := Lib.hid hnil
  have HR : Hid (Rchg (fun k => k = P) W1 W1) := Lib.hid Rchg.here
  obtain ⟨q1, hq1⟩ : ∃ q1 : Pk, q1 = ⟨⟨1, s6, sh, sl, t6, th, tl, 0, 0⟩, hops, false, false, false, false, 0, 0, false, 0, A1, n - 8, c1⟩ := ⟨_, rfl⟩
  rw [← hq1] at hpb
  have HQ1 := Lib.hid hq1
  have HPB := Lib.hid hpb
  have c7 : W1.cell? ⟨P, 7, none⟩ = some (.int .i64 1) := (cell_of hpb 7).trans (by rw [hq1]; rfl)
  have hPl1 : P < W1.heap.size := lt_of_block hpb
  clear hpb hrc hat hnil hq1
  obtain ⟨y0, hy0⟩ : ∃ y, b.getD 0 0 = y := ⟨_, rfl⟩
  have HY0 := Lib.hid hy0
  have q0 := HB1.out.get 0 (by omega)
  rw [hy0] at q0
  have c0 : W1.cell? ⟨g, off, none⟩ = some (.int .u8 y0.toNat) := q0.1
  have gl1 : g < W1.heap.size := q0.2
  have m0 : (0 : Int) < (n : Int) := by omega
  clear hy0 q0
  obtain ⟨q2, hq2⟩ : ∃ q2 : Pk, q2 = ⟨⟨1, s6, sh, sl, t6, th, tl, 0, 0⟩, hops, false, false, false, false, 0, 0, (bytB b 0 == 0 || bytB b 0 == 129), 0, A1, n - 8, c1⟩ := ⟨_, rfl⟩
  have HQ2 := Lib.hid hq2
  clear hq2
  have c16 : W1.cell? ⟨P, 16, none⟩ = some (.bool false) := (cell_of HPB.out 16).trans (by rw [HQ1.out]; rfl)
  have f16 : W1.frozen? ⟨P, 16, none⟩ = false := by simp [World.frozen?, HPB.out]
  have HS : Hid (∀ v : Bool, v = (bytB b 0 == 0 || bytB b 0 == 129) → (W1.setCell ⟨P, 16, none⟩ (.bool v)).heap[P]? = some (.cells (pkA q2) 31 (0, 0)) ∧ Rchg (fun k => k = P) W1 (W1.setCell ⟨P, 16, none⟩ (.bool v))) := Lib.hid (fun v hv => ⟨(heap_set HPB.out 16 _).trans (by rw [HQ1.out, HQ2.out, hv]; rfl), Rchg.set Rchg.here (fun _ => rfl) 16 _⟩)
  have HY : Hid (bytB b 0 = y0.toNat) := Lib.hid (by unfold bytB; rw [HY0.out])
  go_upto_region 8 with (fail)
  go_cut [] from 30 to 42 (fun wc => wc.heap[P]? = some (.cells (pkA q2) 31 (0, 0)) ∧ Rchg (fun k => k = P) W1 wc)
  case first =>
    by_cases h0 : y0.toNat = 0
    · have e0 : ((y0.toNat : Int) == 0) = true := by simp; omega
      have HT := Lib.hid (HS.out true (by rw [HY.out, h0]; rfl))
      clear h0
      go_wp2_with fail
      go_meet
      exact HT.out
    · have e0 : ((y0.toNat : Int) == 0) = false := by simp; omega
      by_cases h1 : y0.toNat = 129
      · have e1 : ((y0.toNat : Int) == 129) = true := by simp; omega
        have HT := Lib.hid (HS.out true (by rw [HY.out, h1]; rfl))
        clear h0 h1
        go_wp2_with fail
        go_meet
        exact HT.out
      · have e1 : ((y0.toNat : Int) == 129) = false := by simp; omega
        have HT := Lib.hid (HS.out false (by rw [HY.out]; simp [h0, h1]))
        clear h0 h1
        go_wp2_with fail
        go_meet
        exact HT.out
  case rest =>
  obtain ⟨hpb, hrc⟩ := hcut
  obtain ⟨W2, rfl⟩ : ∃ W2 : World, W2 = wc := ⟨_, rfl⟩
  have HR : Hid (Rchg (fun k => k = P) W1 W2) := Lib.hid (HR.out.trans hrc (fun _ _ e => e))
  clear HPB HS c16 f16 c0 gl1
  have HPB := Lib.hid hpb
  clear hrc
  have hPl2 : P < W2.heap.size := lt_of_block hpb
  clear hPl1
  have hPl1 := hPl2
  clear hPl2 hpb c7
  have sw4 : IntKind.i64.wrap ((takeN (subB b 4 6) : Nat) : Int) = ((takeN (subB b 4 6) : Nat) : Int) := IntWalk.i64_in _ (by have h : 0 ≤ numB b 4 6 ∧ numB b 4 6 ≤ 65535 := num2 b 4; unfold numB at h; omega)
  have sw6 : IntKind.i64.wrap ((takeN (subB b 6 8) : Nat) : Int) = ((takeN (subB b 6 8) : Nat) : Int) := IntWalk.i64_in _ (by have h : 0 ≤ numB b 6 8 ∧ numB b 6 8 ≤ 65535 := num2 b 6; unfold numB at h; omega)
  have cd4 : (4 : Int) ≤ (cap : Int) := by omega
  have cn4 : 4 ≤ cap := by omega
  have nc4 : ¬ cap = 4 := by omega
  have md4 : (4 : Int) < (n : Int) := by omega
  have cd6 : (6 : Int) ≤ (cap : Int) := by omega
  have cn6 : 6 ≤ cap := by omega
  have nc6 : ¬ cap = 6 := by omega
  have md6 : (6 : Int) < (n : Int) := by omega
  have cd8 : (8 : Int) ≤ (cap : Int) := by omega
  have cn8 : 8 ≤ cap := by omega
  obtain ⟨q3, hq3⟩ : ∃ q3 : Pk, q3 = ⟨⟨1, s6, sh, sl, t6, th, tl, 0, 0⟩, hops, false, false, false, false, (numB b 6 8), 0, (bytB b 0 == 0 || bytB b 0 == 129), (numB b 4 6), A1, n - 8, c1⟩ := ⟨_, rfl⟩
  have HQ3 := Lib.hid hq3
  clear hq3
  have HGS : Hid (GM W2 P 31 (pkA q3) [14, 17] W2.drew) := Lib.hid (GM.start HPB.out rfl (fun i hi => by
    simp only [List.mem_cons, List.mem_nil_iff, or_false, not_or] at hi
    rw [HQ2.out, HQ3.out]
    rcases i with _ | _ | _ | _ | _ | _ | _ | _ | _ | _ | _ | _ | _ | _ | _ | _ | _ | _ | _ | i <;> first | rfl | (exfalso; omega)))
  have T17 : Hid ((pkA q3)[17]? = some (.int .i64 (takeN (subB b 4 6)))) := Lib.hid (by rw [HQ3.out]; rfl)
  have T14 : Hid ((pkA q3)[14]? = some (.int .i64 (takeN (subB b 6 8)))) := Lib.hid (by rw [HQ3.out]; rfl)
  go_upto_region 9 with (fail)
  go_cut [] from 43 to 56 (fun wc => wc.heap[P]? = some (.cells (pkA q3) 31 (0, 0)) ∧ Rchg (fun k => k = P) W2 wc)
  case first =>
    refine wp_region_drawn 15 (fun f' => ⟨#[.pointer (some ⟨P, 0, none⟩), .slice (some ⟨g, off, none⟩) n cap, undef, undef, .bool false, .int .i64 8, undef, undef, undef, .pointer (some ⟨P, 0, none⟩), .pointer (some ⟨P, 0, none⟩), .pointer (some ⟨P, 7, none⟩), .int .i64 1, .bool false, .slice (some ⟨g, off, none⟩) n cap, .int .i64 n, .int .i64 8, .bool false, u18, u19, u20, u21, u22, u23, u24, .pointer (some ⟨P, 0, none⟩), .pointer (some ⟨P, 0, none⟩), .pointer (some ⟨P, 7, none⟩), .int .i64 1, .bool true, u30, u31, u32, u33, u34, u35, u36, u37, u38, u39, u40, u41, u42, f' 0, f' 1, f' 2, f' 3, f' 4, f' 5, f' 6, f' 7, f' 8, f' 9, f' 10, f' 11, f' 13, f' 14, undef, undef, undef, undef, undef, undef, undef, undef, undef, undef, undef, undef, undef, undef, undef, undef, undef, undef, undef, undef, undef, undef, undef, undef, undef, undef, undef, undef, undef, undef, undef, undef, undef, undef, undef, undef, undef, undef, undef, undef, undef, undef, undef, undef, undef, undef, undef, undef, undef, undef, undef, undef, undef, undef, undef, undef, undef, undef, undef, undef, undef, undef, undef, undef, undef, undef, undef, undef, undef, undef, undef, undef, undef, undef, undef, undef, undef, undef, undef, undef, undef, undef, undef, undef, undef, undef, undef, undef, undef, undef, undef, undef, undef, undef, undef, undef, undef, undef], []⟩) (VL [VIs (.pointer (some ⟨P, 0, none⟩)), VIs (.pointer (some ⟨P, 0, none⟩)), VIs (.slice (some ⟨g, off, none⟩) n cap), VIs (.slice (some ⟨g, off + 4, none⟩) 2 (cap - 4)), VIs (.int .u64 (takeN (subB b 4 6))), VIs (.int .i64 (takeN (subB b 4 6))), VIs (.slice (some ⟨g, off, none⟩) n cap), VIs (.slice (some ⟨g, off + 6, none⟩) 2 (cap - 6)), VIs (.int .u64 (takeN (subB b 6 8))), VIs (.int .i64 (takeN (subB b 6 8))), VIs (.pointer (some ⟨P, 0, none⟩)), VIs (.pointer (some ⟨P, 17, none⟩)), VM P (pkA q3) [17], VIs (.pointer (some ⟨P, 0, none⟩)), VIs (.pointer (some ⟨P, 14, none⟩))]) (fun _ w' => GM W2 P 31 (pkA q3) [14, 17] w') (GrM P (pkA q3)) (fun _ => undef) (show Tryz.prog.follows .mixedOrders = true from by kernel_rfl) (by kernel_rfl) ?_ ?_ ?_ (HGS.out)
    · exact fun i w w' v h hg => VL.stabG (Gr := GrM P (pkA q3)) (by
        intro q hq w w' v hv hg
        simp only [List.mem_cons, List.mem_nil_iff, or_false] at hq
        rcases hq with rfl | rfl | rfl | rfl | rfl | rfl | rfl | rfl | rfl | rfl | rfl | rfl | rfl | rfl | rfl <;> first | exact hv | (exact VM.stab hv hg)) i w w' v h hg
    · intro i o hi ho f' w' k hk hG hd
      have hbw := HB1.out.rc (HR.out.trans hG.choose_spec.2.2.2 (fun _ _ e => e)) hgP
      obtain ⟨⟨x14, k14⟩, g14'⟩ := hG.cell 14 (by show 14 < 19; omega)
      obtain ⟨⟨x17, k17⟩, g17'⟩ := hG.cell 17 (by show 17 < 19; omega)
      have HG := Lib.hid hG
      have HBW := Lib.hid hbw
      clear hG hbw 
      have hcase : i = 0 ∨ i = 1 ∨ i = 2 ∨ i = 3 ∨ i = 4 ∨ i = 5 ∨ i = 6 ∨ i = 7 ∨ i = 8 ∨ i = 9 ∨ i = 10 ∨ i = 11 ∨ i = 12 ∨ i = 13 ∨ i = 14 := by omega
      rcases hcase with rfl | rfl | rfl | rfl | rfl | rfl | rfl | rfl | rfl | rfl | rfl | rfl | rfl | rfl | rfl <;> (replace ho := Option.some.inj ho; subst ho)
      · unfold Oper.wp
        go_simp
        exact ⟨_, (by first | (simp [upd]; done) | (simp [upd]; omega)), rfl, HG.out, GrM.refl _ _ _⟩
      · unfold Oper.wp
        go_simp
        exact ⟨_, (by first | (simp [upd]; done) | (simp [upd]; omega)), rfl, HG.out, GrM.refl _ _ _⟩
      · unfold Oper.wp
        go_simp
        exact ⟨_, (by first | (simp [upd]; done) | (simp [upd]; omega)), rfl, HG.out, GrM.refl _ _ _⟩
      · have e2 : f' 2 = _ := hd ⟨2, .data⟩ (by simp) rfl
        unfold Oper.wp
        go_simp
        exact ⟨_, (by simp [upd, e2]), rfl, HG.out, GrM.refl _ _ _⟩
      · have e3 : f' 3 = _ := hd ⟨3, .data⟩ (by simp) rfl
        unfold Oper.wp
        go_simp
        refine (take_sub g off (cap - 4) b 4 2 w' HBW.out (by omega) (by omega)).mono ?_
        rintro e w9 ⟨rfl, rfl⟩
        exact ⟨_, (by simp [upd, e3]), rfl, HG.out, GrM.refl _ _ _⟩
      · have e4 : f' 4 = _ := hd ⟨4, .data⟩ (by simp) rfl
        unfold Oper.wp
        go_simp
        exact ⟨_, (by first | (simp [upd, e4]; done) | (simp [upd, e4]; omega)), rfl, HG.out, GrM.refl _ _ _⟩
      · unfold Oper.wp
        go_simp
        exact ⟨_, (by first | (simp [upd]; done) | (simp [upd]; omega)), rfl, HG.out, GrM.refl _ _ _⟩
      · have e6 : f' 6 = _ := hd ⟨6, .data⟩ (by simp) rfl
        unfold Oper.wp
        go_simp
        exact ⟨_, (by simp [upd, e6]), rfl, HG.out, GrM.refl _ _ _⟩
      · have e7 : f' 7 = _ := hd ⟨7, .data⟩ (by simp) rfl
        unfold Oper.wp
        go_simp
        refine (take_sub g off (cap - 6) b 6 2 w' HBW.out (by omega) (by omega)).mono ?_
        rintro e w9 ⟨rfl, rfl⟩
        exact ⟨_, (by simp [upd, e7]), rfl, HG.out, GrM.refl _ _ _⟩
      · have e8 : f' 8 = _ := hd ⟨8, .data⟩ (by simp) rfl
        unfold Oper.wp
        go_simp
        exact ⟨_, (by first | (simp [upd, e8]; done) | (simp [upd, e8]; omega)), rfl, HG.out, GrM.refl _ _ _⟩
      · have e0 : f' 0 = _ := hd ⟨0, .data⟩ (by simp) rfl
        unfold Oper.wp
        go_simp
        exact ⟨_, (by first | (simp [upd, e0]; done) | (simp [upd, e0]; omega)), rfl, HG.out, GrM.refl _ _ _⟩
      · have e10 : f' 10 = _ := hd ⟨10, .data⟩ (by simp) rfl
        unfold Oper.wp
        go_simp
        exact ⟨_, (by first | (simp [upd, e10]; done) | (simp [upd, e10]; omega)), rfl, HG.out, GrM.refl _ _ _⟩
      · have e5 : f' 5 = _ := hd ⟨5, .data⟩ (by simp) rfl
        have e11 : f' 11 = _ := hd ⟨11, .data⟩ (by simp) rfl
        unfold Oper.wp
        go_simp
        obtain ⟨G0, r0, z0⟩ := HG.out.st T17.out (by simp)
        exact ⟨undef, (by simp [upd, e5, e11]), VM.cons (v := undef) z0 T17.out VM.nil, G0, r0⟩
      · have e1 : f' 1 = _ := hd ⟨1, .data⟩ (by simp) rfl
        unfold Oper.wp
        go_simp
        exact ⟨_, (by first | (simp [upd, e1]; done) | (simp [upd, e1]; omega)), rfl, HG.out, GrM.refl _ _ _⟩
      · have e13 : f' 13 = _ := hd ⟨13, .data⟩ (by simp) rfl
        unfold Oper.wp
        go_simp
        exact ⟨_, (by first | (simp [upd, e13]; done) | (simp [upd, e13]; omega)), rfl, HG.out, GrM.refl _ _ _⟩
    · intro o ho f' w' k hk hG hd
      have hbw := HB1.out.rc (HR.out.trans hG.choose_spec.2.2.2 (fun _ _ e => e)) hgP
      obtain ⟨⟨x14, k14⟩, g14'⟩ := hG.cell 14 (by show 14 < 19; omega)
      obtain ⟨⟨x17, k17⟩, g17'⟩ := hG.cell 17 (by show 17 < 19; omega)
      have HG := Lib.hid hG
      have HBW := Lib.hid hbw
      clear hG hbw 
      have e9 : f' 9 = _ := hd 9 (by omega)
      have e14 : f' 14 = _ := hd 14 (by omega)
      obtain ⟨G0, r0, z0⟩ := HG.out.st T14.out (by simp)
      have rr := r0
      have v12 := VM.stab (show VM P (pkA q3) [17] w' (f' 12) from hd 12 (by omega)) rr
      have vl : VM P (pkA q3) [14] _ undef := VM.cons z0 T14.out VM.nil
      have HF := Lib.hid (G0.fin (fun j hj v hv => by
        simp only [List.mem_cons, List.mem_nil_iff, or_false] at hj
        rcases hj with rfl | rfl
        · exact vl 14 (by simp) v hv
        · exact v12 17 (by simp) v hv) (fun j hj => by
        simp only [List.mem_cons, List.mem_nil_iff, or_false] at hj
        show j < 19
        omega))
      clear vl rr v12 r0 z0 G0
      replace ho := Option.some.inj ho
      subst ho
      unfold Oper.wp
      go_simp
      go_step
      go_meet
      exact HF.out
  case rest =>
  obtain ⟨hpb, hrc⟩ := hcut
  obtain ⟨W3, rfl⟩ : ∃ W3 : World, W3 = wc := ⟨_, rfl⟩
  have HR : Hid (Rchg (fun k => k = P) W1 W3) := Lib.hid (HR.out.trans hrc (fun _ _ e => e))
  clear HGS HPB
  have HPB := Lib.hid hpb
  clear hrc
  have hPl2 : P < W3.heap.size := lt_of_block hpb
  clear hPl1
  have hPl1 := hPl2
  clear hPl2
  clear hpb
  have c7 : W3.cell? ⟨P, 7, none⟩ = some (.int .i64 1) := (cell_of HPB.out 7).trans (by rw [HQ3.out]; rfl)
  have HQP : Hid ({ fieldsP p b with pA := A1, pn := n - 8, pc := c1 } = q3) := Lib.hid (by rw [HQ3.out, HQ0.out]; rfl)
  have HOK : Hid (partOk p b = (partP q3 (b.drop 8) == put2 b 2 0)) := Lib.hid (by
    rw [HQ3.out, HQ0.out]
    unfold partOk
    rw [decide_eq_true (by rw [hl]; show 8 ≤ n; omega), Bool.true_and]
    rfl)
  have HR0 : Hid (PkR q3) := Lib.hid (by rw [← HQP.out]; exact (fields_r HBare.out (by rw [HPr.out]; rfl) b).pay _ _ _)
  have HPY : Hid (PayAt W3 q3 (b.drop 8)) := Lib.hid (by rw [← HQP.out]; exact ⟨HAT.out _ HR.out, by show (b.drop 8).length = n - 8; simp; omega, HNIL.out, by show n - 8 ≤ 5000; omega⟩)
  have HPRQ : Hid (q3.f.proto = 1) := Lib.hid (by rw [HQ3.out])
  have h5 := HPB.out
  go_upto_region 16 with (fail)
  first | refine load_step rfl h5 (by kernel_rfl) (by kernel_rfl) ?_ | (go_step; first | refine load_step rfl h5 (by kernel_rfl) (by kernel_rfl) ?_ | (go_step; first | refine load_step rfl h5 (by kernel_rfl) (by kernel_rfl) ?_ | (go_step; first | refine load_step rfl h5 (by kernel_rfl) (by kernel_rfl) ?_ | (go_step; first | refine load_step rfl h5 (by kernel_rfl) (by kernel_rfl) ?_ | (go_step; first | refine load_step rfl h5 (by kernel_rfl) (by kernel_rfl) ?_ | (go_step; first | refine load_step rfl h5 (by kernel_rfl) (by kernel_rfl) ?_ | (go_step; first | refine load_step rfl h5 (by kernel_rfl) (by kernel_rfl) ?_ | (go_step; first | refine load_step rfl h5 (by kernel_rfl) (by kernel_rfl) ?_ | (go_step; first | refine load_step rfl h5 (by kernel_rfl) (by kernel_rfl) ?_ | (go_step; refine load_step rfl h5 (by kernel_rfl) (by kernel_rfl) ?_))))))))))
  clear h5
  go_wp2_with fail
  refine (partOf_any q3 HR0.out (b.drop 8) W3 HPY.out).mono ?_
  rintro e W6 ⟨A6, n6, cap6, rfl, ho6, hb6⟩
  have HB6 := Lib.hid (HB1.out.rc ((HR.out).bl hb6) hgP)
  have HBL6 := Lib.hid hb6
  have HO6 := Lib.hid ho6
  clear ho6 hb6
  go_wp2_with fail
  refine (cloneB_any g off n cap b W6 HB6.out hl (by omega)).mono ?_
  rintro e W7 ⟨A7, cap7, rfl, ho7, hb7⟩
  obtain ⟨g7, rfl, hg7, hg7l, hn7⟩ := ho7.ex (by omega)
  have hP7 := ((HBL6.out.trans (hb7.mono HBL6.out.size)).block P hPl1).trans HPB.out
  have hPl7 : P < W7.heap.size := lt_of_block hP7
  have c7 : W7.cell? ⟨P, 7, none⟩ = some (.int .i64 1) := (cell_of hP7 7).trans (by rw [HQ3.out]; rfl)
  obtain ⟨x1, hx1⟩ := ho7.cell 2 (by omega)
  obtain ⟨x2, hx2⟩ := ho7.cell 3 (by omega)
  have f1 := ho7.froz 2
  have f2 := ho7.froz 3
  have ma : (2 : Int) < (n : Int) := by omega
  have mb : (3 : Int) < (n : Int) := by omega
  have HO8 : Hid (bAt ((W7.setCell ⟨g7, 2, none⟩ (.int .u8 0)).setCell ⟨g7, 3, none⟩ (.int .u8 0)) (some ⟨g7, 0, none⟩) (put2 b 2 0)) := Lib.hid (((ho7.put 2 0).put 3 0).at_)
  have HB68 : Hid (Below W6.heap.size W6 ((W7.setCell ⟨g7, 2, none⟩ (.int .u8 0)).setCell ⟨g7, 3, none⟩ (.int .u8 0))) := Lib.hid (bl_setAt (bl_setAt hb7 hg7) hg7)
  have hsm := fun W => sumAt_any 1 W
  have hsm : ∀ W, Calls Tryz.prog 22 #[.int .i64 1] W fun e w' => e = .returned (.int .i64 2) ∧ W = w' := hsm
  clear hb7 ho7 hP7
  go_wp2_with (refine (hsm _).mono ?_; rintro e w9 ⟨rfl, rfl⟩)
  generalize hW : World.setCell _ _ _ = W8 at HO8 HB68 ⊢
  clear hW hx1 hx2 f1 f2 c7
  have HL6 : Hid ((partP q3 (b.drop 8)).length = n6) := Lib.hid HO6.out.1
  have hn6 : n6 ≤ 100000 := by
    have h1 := (part_len q3 (b.drop 8)).2; rw [HL6.out] at h1
    have h2 : (b.drop 8).length ≤ n := by rw [List.length_drop]; omega
    omega
  have HL8 : Hid ((put2 b 2 0).length = n) := Lib.hid (by rw [put2_len]; exact hl)
  refine (equalB_any A6 (some ⟨g7, 0, none⟩) n6 n cap6 cap7 (partP q3 (b.drop 8)) (put2 b 2 0) W8 (HO6.out.at_.below HB68.out) HO8.out HL6.out HL8.out hn6).mono ?_
  rintro e W9 ⟨rfl, hb9⟩
  have HB9 : Hid (Below W3.heap.size W3 W9) := Lib.hid ((HBL6.out.trans (HB68.out.mono HBL6.out.size)).trans (hb9.mono (Nat.le_trans HBL6.out.size HB68.out.size)))
  have HBo : Hid (∃ bo : Bool, decide (partP q3 (b.drop 8) = put2 b 2 0) = bo) := Lib.hid ⟨_, rfl⟩
  obtain ⟨bo, hbo⟩ := HBo.out
  rw [hbo]
  have HBO : Hid (partOk p b = bo) := Lib.hid (by rw [HOK.out, ← hbo]; exact (Bool.beq_eq_decide_eq _ _))
  clear hb9 hbo
  go_wp2_with fail
  go_ret
  refine ⟨by rw [HBO.out]; rfl, fun _ => ⟨A1, c1, ?_, ?_⟩, HRC0.out.trans (HR.out.bl HB9.out) (fun _ _ e => e)⟩
  · rw [hl, show leastP p.f.proto = 8 from by rw [HPr.out]; rfl, HQP.out]
    exact (HB9.out.block P hPl1).trans HPB.out
  · rw [hl, show leastP p.f.proto = 8 from by rw [HPr.out]; rfl, HQP.out]
    exact HPY.out.below HB9.out
end Go.Proofs.YtfakfhbcpldeoaaGreatDoor
