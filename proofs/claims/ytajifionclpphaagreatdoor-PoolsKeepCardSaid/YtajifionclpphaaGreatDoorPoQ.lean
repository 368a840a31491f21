/- PoolsKeep: the walk. -/
import Derived.Test.YtajifionclpphaaGreatDoorPoP
import Derived.Test.YtajifionclpphaaGreatDoorPoO
import Derived.Test.YtajifionclpphaaGreatDoorRyF
import Derived.Test.YtajifionclpphaaGreatDoorHbo
namespace Go.Proofs.YtajifionclpphaaGreatDoor
open Go.RowKit Go.Hw
/-- What stands ahead of the loop and in it: the pool, the number, both functions, what is free. -/
structure PkS (base : Nat) (w : World) (P : Pl) (AK AL A6 : Option Addr) (P6 : List Pf) (ck cl pb nb fb : Nat) (n : Int) (W : World) : Prop where
  below : Below base w W
  base : base = w.heap.size
  p : W.heap[pb]? = some (.cells #[.bool P.pf.six, .int .u64 P.pf.hi, .int .u64 P.pf.lo, .int .i64 P.pf.bits, .slice AK P.kept.length ck, .slice AL P.ls.length cl] 53 (0, 0))
  n : W.heap[nb]? = some (.cells #[.int .i64 n] 3 (0, 0))
  f : W.heap[fb]? = some (.cells #[.func (.func 22) #[] #[], .func (.func 23) #[] #[]] 57 (0, 0))
  at_ : PlAt W P AK AL cl
  px : pxAt W A6 P6
theorem PkS.call {base : Nat} {w W W' : World} {P : Pl} {AK AL A6 : Option Addr} {P6 : List Pf} {ck cl pb nb fb : Nat} {n : Int} (h : PkS base w P AK AL A6 P6 ck cl pb nb fb n W) (hb : Below W.heap.size W W') : PkS base w P AK AL A6 P6 ck cl pb nb fb n W' :=
  ⟨h.below.trans (hb.mono (by have := h.base; have := h.below.size; omega)), h.base, (hb.block _ (lt_of_block h.p)).trans h.p, (hb.block _ (lt_of_block h.n)).trans h.n, (hb.block _ (lt_of_block h.f)).trans h.f, h.at_.below hb, h.px.below hb⟩
theorem PkS.al {base : Nat} {w W : World} {P : Pl} {AK AL A6 : Option Addr} {P6 : List Pf} {ck cl pb nb fb : Nat} {n : Int} (h : PkS base w P AK AL A6 P6 ck cl pb nb fb n W) (o : Obj) : PkS base w P AK AL A6 P6 ck cl pb nb fb n (W.alloc o) := h.call ((Below.refl _ _).alloc (Nat.le_refl _) o)
set_option maxRecDepth 100000 in
set_option maxHeartbeats 16000000 in
theorem poolsKeep_any (A : Option Addr) (cap : Nat) (l : List Int) (w : World) (hA : ∀ i, i < l.length → ∃ g off, A = some ⟨g, off, none⟩ ∧ g < w.heap.size ∧ w.cell? ⟨g, off + i, none⟩ = some (.int .i64 (l.getD i 0)))
    (hfits : ∀ i, -9223372036854775808 ≤ l.getD i 0 ∧ l.getD i 0 ≤ 9223372036854775807) (hlong : l.length ≤ 17592186044416) (hmx : MxW w) :
    Calls Tryz.prog 4 #[.slice A l.length cap] w fun e w' => e = .returned (.bool true) ∧ Below w.heap.size w w' := by
  have hs0 : Str (w.alloc (.cells #[.slice A l.length cap, .int .i64 0] 25)) w.heap.size A cap l 0 := {
    cell := heap_alloc_new w _
    ints := fun i hi => by
      obtain ⟨g, off, h1, h2, h3⟩ := hA i hi
      exact ⟨g, off, h1, h2, by rw [World.cell?_alloc_lt _ _ _ h2]; exact h3⟩
    fits := hfits
    long := hlong
    low := by omega
    high := by omega }
  have hB0 : Below w.heap.size w (w.alloc (.cells #[.slice A l.length cap, .int .i64 0] 25)) := (Below.refl _ _).alloc (Nat.le_refl _) _
  have HS := Lib.hid hs0
  have HB := Lib.hid hB0
  have HM := Lib.hid hmx
  clear hs0 hB0 hA hfits hmx
  go_enter Tryz.func4, Tryz.ntmps4
  go_upto_region 2 with (fail)
  generalize hW : World.alloc _ _ = W1 at HS HB ⊢
  clear hW
  have hb0 := HS.out.lt
  obtain ⟨b, hb⟩ : ∃ b, b = w.heap.size := ⟨_, rfl⟩
  rw [← hb] at HS HB hb0 ⊢
  have HBW := Lib.hid hb
  clear hb
  go_wp2_with fail
  refine (rightPool_any b A cap l 0 W1 HS.out (by omega)).mono ?_
  rintro e W2 ⟨P, AK, AL, ck, cl, rfl, hp, hf, h4, hkeys, hbase, hrows, x2, hx1, hx2, hs2, hg2⟩
  have HF := Lib.hid hf
  have HK := Lib.hid hkeys
  have H4 := Lib.hid h4
  obtain ⟨-, -, hbit1, hbit2, hbit3, hbit4, -⟩ := hbase.fine
  have HP2 := Lib.hid hp
  have HB2 : Hid (Below b w W2) := Lib.hid (HB.out.grown hg2 (by have := HBW.out; have := HB.out.size; omega) (fun j e => by injection e with e; omega))
  have HRW := Lib.hid hrows
  have hz2 := hg2.size
  unfold plV
  have D0 := (DS.start hs2).al #[.bool P.pf.six, .int .u64 P.pf.hi, .int .u64 P.pf.lo, .int .i64 P.pf.bits, .slice AK P.kept.length ck, .slice AL P.ls.length cl] 53
  have HPal := Lib.hid (hp.below ((Below.refl W2.heap.size W2).alloc (Nat.le_refl _) (.cells #[.bool P.pf.six, .int .u64 P.pf.hi, .int .u64 P.pf.lo, .int .i64 P.pf.bits, .slice AK P.kept.length ck, .slice AL P.ls.length cl] 53 (0, 0))))
  clear hp hf h4 hkeys hbase hrows hs2 hg2 HS HB
  have hwb2 := HB2.out.size
  go_upto_region 3 with (fail)
  have hw23 : (W2.alloc (.cells #[.bool P.pf.six, .int .u64 P.pf.hi, .int .u64 P.pf.lo, .int .i64 P.pf.bits, .slice AK P.kept.length ck, .slice AL P.ls.length cl] 53 (0, 0))).heap.size = W2.heap.size + 1 := by simp
  generalize World.alloc W2 _ = W3 at D0 HPal hw23 ⊢
  obtain ⟨pb, hpb⟩ : ∃ pb, pb = W2.heap.size := ⟨_, rfl⟩
  rw [← hpb] at D0 ⊢
  have hpb1 : W2.heap.size ≤ pb := by omega
  have hpb2 : pb < W3.heap.size := by omega
  have hpb3 : W2.heap.size ≤ W3.heap.size := by omega
  clear hpb hw23
  -- R3
  refine wp_region_drawn 7 (fun f' => ⟨#[.slice A l.length cap, undef, .bool false, .pointer (some ⟨b, 0, none⟩), .pointer (some ⟨pb, 0, none⟩), f' 6, undef, undef, undef, undef, undef, undef, undef, undef, undef, undef, undef, undef, undef, undef, undef, undef, .slice A l.length cap, .agg #[.slice A l.length cap, .int .i64 0], .pointer (some ⟨b, 0, none⟩), .pointer (some ⟨b, 0, none⟩), .agg #[.bool P.pf.six, .int .u64 P.pf.hi, .int .u64 P.pf.lo, .int .i64 P.pf.bits, .slice AK P.kept.length ck, .slice AL P.ls.length cl], f' 0, f' 1, f' 2, f' 3, f' 4, f' 5, undef, undef, undef, undef, undef, undef, undef, undef, undef, undef, undef, undef, undef, undef, undef, undef, undef, undef, undef, undef, undef, undef, undef, undef, undef, undef, undef, undef, undef, undef, undef, undef, undef, undef, undef, undef, undef, undef, undef, undef, undef, undef, undef, undef, undef, undef, undef, undef, undef, undef, undef, undef, undef, undef, undef, undef, undef, undef, undef, undef, undef, undef, undef, undef, undef, undef, undef, undef, undef, undef, undef, undef, undef, undef, undef, undef, undef, undef, undef, undef, undef, undef, undef, undef, undef, undef, undef, undef, undef, undef, undef, undef, undef, undef, undef, undef, undef, undef, undef, undef, undef, undef, undef, undef, undef, undef, undef, undef, undef, undef, undef, undef], []⟩) (VL [VIs (.pointer (some ⟨pb, 0, none⟩)), VIs (.pointer (some ⟨pb, 3, none⟩)), VIs (.int .i64 P.pf.bits), VIs (.pointer (some ⟨b, 0, none⟩)), VInt (fun z => 0 ≤ z ∧ z ≤ 6), VInt (fun z => P.pf.bits ≤ z ∧ z ≤ P.pf.bits + 6), VNew b W3.heap.size (#[.int .i64 0]) 3]) (GD W2 W3 b A cap l x2 0 [(pb, #[.bool P.pf.six, .int .u64 P.pf.hi, .int .u64 P.pf.lo, .int .i64 P.pf.bits, .slice AK P.kept.length ck, .slice AL P.ls.length cl], 53)]) (fun w w' => w.grownBy w' (some b)) (fun _ => undef) (show Tryz.prog.follows .mixedOrders = true from by kernel_rfl) (by kernel_rfl) ?_ ?_ ?_ (GD.start D0)
  · exact fun i w w' v h hg => VL.stab (by
      intro p hp
      simp only [List.mem_cons, List.mem_nil_iff, or_false] at hp
      rcases hp with rfl | rfl | rfl | rfl | rfl | rfl | rfl <;> first | exact VIs.stab _ _ | exact VBox.stab _ _ _ _ | exact VInt.stab _ _ | exact VVal.stab _ _ | exact VStr.stab _ _ | exact VFlip.stab _ | exact VNew.stab _ _ _ _) i w w' v h hg
  · intro i op hi ho f' w' kk hkk hG hd
    have c3 : w'.cell? ⟨pb, 3, none⟩ = some (.int .i64 P.pf.bits) := hG.1.cell 0 3 rfl rfl
    have HG := Lib.hid hG
    clear hG
    have hcase : i = 0 ∨ i = 1 ∨ i = 2 ∨ i = 3 ∨ i = 4 ∨ i = 5 ∨ i = 6 := by omega
    rcases hcase with rfl | rfl | rfl | rfl | rfl | rfl | rfl <;> (replace ho := Option.some.inj ho; subst ho)
    · unfold Oper.wp
      go_simp
      exact ⟨_, (by first | (simp [upd]; done) | (simp [upd]; omega)), rfl, HG.out.same, gr_refl _ _⟩
    · have e0 : f' 0 = _ := hd ⟨0, .data⟩ (by simp) rfl
      unfold Oper.wp
      go_simp
      exact ⟨_, (by first | (simp [upd, e0]; done) | (simp [upd, e0]; omega)), rfl, HG.out.same, gr_refl _ _⟩
    · have e1 : f' 1 = _ := hd ⟨1, .data⟩ (by simp) rfl
      unfold Oper.wp
      go_simp
      exact ⟨_, (by first | (simp [upd, e1]; done) | (simp [upd, e1]; omega)), rfl, HG.out.same, gr_refl _ _⟩
    · unfold Oper.wp
      go_simp
      exact ⟨_, (by first | (simp [upd]; done) | (simp [upd]; omega)), rfl, HG.out.same, gr_refl _ _⟩
    · have e3 : f' 3 = _ := hd ⟨3, .data⟩ (by simp) rfl
      unfold Oper.wp
      go_simp
      refine (DS.range HG.out.1 (by omega) 0 6 (by omega) (by omega) (by omega) (by omega)).mono ?_
      rintro e W9 ⟨⟨d, hd8, hd9, rfl⟩, D9, hg9⟩
      exact ⟨_, (by simp [upd, e3]), ⟨d, ⟨hd8, hd9⟩, rfl⟩, HG.out.ext D9 hg9, hg9⟩
    · have e2 : f' 2 = _ := hd ⟨2, .data⟩ (by simp) rfl
      obtain ⟨d4, hd4, e4⟩ := hd ⟨4, .data⟩ (by simp) rfl
      have hw : IntKind.i64.wrap (P.pf.bits + d4) = P.pf.bits + d4 := wrap_small _ (by omega) (by omega)
      unfold Oper.wp
      go_simp
      exact ⟨.int .i64 (P.pf.bits + d4), (by simp [upd, e2, e4]), ⟨P.pf.bits + d4, (by omega), rfl⟩, HG.out.same, gr_refl _ _⟩
    · unfold Oper.wp
      go_simp
      exact ⟨_, (by simp [upd]), ⟨_, rfl, al1 _ _, HG.out.2, by have := HG.out.1.blt; omega⟩, HG.out.alo _, gr_alo _ _ _⟩
  · intro op ho f' w' kk hkk hG hd
    have c3 : w'.cell? ⟨pb, 3, none⟩ = some (.int .i64 P.pf.bits) := hG.1.cell 0 3 rfl rfl
    have HG := Lib.hid hG
    clear hG
    obtain ⟨d5, hd5, e5⟩ := hd 5 (by omega)
    obtain ⟨P6, e6, hP6, hPb6, hPn6⟩ := hd 6 (by omega)
    replace ho := Option.some.inj ho
    subst ho
    have DV := HG.out.1.view hP6 (by omega) (by
      intro q hq
      simp only [List.mem_cons, List.mem_nil_iff, or_false] at hq
      rw [hq]
      show pb ≠ P6
      omega)
    have c6 : w'.cell? ⟨P6, 0, none⟩ = some (.int .i64 0) := DV.cell 0 0 rfl rfl
    have m6 : w'.frozen? ⟨P6, 0, none⟩ = false := DV.froz 0 0 rfl
    have D4 := DV.set 0 0 (.int .i64 d5) rfl
    have HD4 := Lib.hid D4
    have hd5' := Lib.hid hd5
    have hz3 := HG.out.2
    clear DV HG D4
    unfold Oper.wp
    go_simp
    clear c6 m6 c3 hP6
    generalize World.setCell w' _ _ = W4 at HD4 ⊢
    have BN : Hid (W4.heap[P6]? = some (.cells #[.int .i64 d5] 3 (0, 0))) := Lib.hid (HD4.out.blk _ (List.mem_of_getElem? (i := 0) rfl))
    have BP : Hid (W4.heap[pb]? = some (.cells #[.bool P.pf.six, .int .u64 P.pf.hi, .int .u64 P.pf.lo, .int .i64 P.pf.bits, .slice AK P.kept.length ck, .slice AL P.ls.length cl] 53 (0, 0))) := Lib.hid (HD4.out.blk _ (List.mem_of_getElem? (i := 1) rfl))
    have HB4 : Hid (Below b w W4) := Lib.hid (HB2.out.grown HD4.out.grown (by have := HBW.out; have := HB2.out.size; omega) (fun j e => by injection e with e; omega))
    have HP4 : Hid (PlAt W4 P AK AL cl) := Lib.hid (HP2.out.grown HD4.out.grown (fun a ha e => by injection e with e; have := HRW.out.1 a ha; omega) (fun a ha e => by injection e with e; have := HRW.out.2 a ha; omega))
    clear HD4 HP2 HB2 HPal HRW
    have hwb4 := HB4.out.size
    have hn1 := hd5'.out
    obtain ⟨⟨p0, p1, p2, p3, p4, p5⟩, -⟩ := res6r BP.out
    have hfr := addrFree_any P AK AL ck cl W4 HP4.out HF.out
    unfold plV at hfr
    go_upto_region 4 with (fail)
    go_wp2_with fail
    refine hfr.mono ?_
    rintro e W5 ⟨v6, rfl, ⟨A6, c6, Q6, T6, rfl, hpx, hset, hhas, h1000⟩, hb5⟩
    have BN5 := (hb5.block _ (lt_of_block BN.out)).trans BN.out
    have BP5 := (hb5.block _ (lt_of_block BP.out)).trans BP.out
    have HB5 := HB4.out.trans (hb5.mono (by have := HBW.out; omega))
    have HP5 := HP4.out.below hb5
    have hal := (Below.refl W5.heap.size W5).alloc (Nat.le_refl _) (.cells #[.func (.func 22) #[] #[], .func (.func 23) #[] #[]] 57 (0, 0))
    have hnf := heap_alloc_new W5 (.cells #[.func (.func 22) #[] #[], .func (.func 23) #[] #[]] 57 (0, 0))
    have HI : Hid (PkS b w P AK AL A6 Q6 ck cl pb P6 W5.heap.size d5 (W5.alloc (.cells #[.func (.func 22) #[] #[], .func (.func 23) #[] #[]] 57 (0, 0)))) := Lib.hid ⟨HB5.trans (hal.mono (by have := HBW.out; have := HB5.size; omega)), HBW.out, (hal.block _ (lt_of_block BP5)).trans BP5, (hal.block _ (lt_of_block BN5)).trans BN5, hnf, HP5.below hal, hpx.below hal⟩
    have HSET := Lib.hid hset
    have HHAS := Lib.hid hhas
    clear hfr hb5 BN5 BP5 HB5 HP5 hal hnf hset hhas hpx p0 p1 p2 p3 p4 p5 BN BP HB4 HP4
    have HNO : Hid (∀ y ∈ P.ls, y.key ≠ [122, 122]) := Lib.hid fun y hy e => by
      have := HK.out y hy
      rw [e] at this
      revert this
      decide
    go_wp2_with fail
    generalize World.alloc W5 _ = V0 at HI ⊢
    generalize W5.heap.size = fb at HI ⊢
    generalize hg0 : f' 0 = g0
    generalize hg1 : f' 1 = g1
    generalize hg2 : f' 2 = g2
    generalize hg3 : f' 3 = g3
    generalize hg4 : f' 4 = g4
    clear hg0 hg1 hg2 hg3 hg4
    go_loopw [9, 10, 11, 12, 13, 14, 15, 16, 17, 18, 40] (fun _ _ _ _ _ _ _ _ _ _ v40 wr => ∃ k : Nat, k ≤ 2 ∧ v40 = .int .i64 k ∧ PkS b w P AK AL A6 Q6 ck cl pb P6 fb d5 wr) (fun _ _ _ _ _ _ _ _ _ _ v40 _ => 2 - (intOf v40).toNat)
    case atStart => exact ⟨0, by omega, rfl, HI.out⟩
    case round =>
      obtain ⟨k, hk, rfl, hI⟩ := hrel
      clear HI
      by_cases hlt : k < 2
      · obtain ⟨g, hgc, eg, HT⟩ : ∃ g, wr.cell? ⟨fb, k, none⟩ = some (.func (.func g) #[] #[]) ∧ (∀ args w, (callFunc g args).run Tryz.prog w = .ok (.enter g args) w) ∧ ∀ W, PlAt W P AK AL cl → Calls Tryz.prog g #[.agg #[.bool P.pf.six, .int .u64 P.pf.hi, .int .u64 P.pf.lo, .int .i64 P.pf.bits, .slice AK P.kept.length ck, .slice AL P.ls.length cl], .string ⟨#[122, 122]⟩, .int .i64 d5] W (TakeIs W P [122, 122] d5) := by
          have hk2 : k = 0 ∨ k = 1 := by omega
          rcases hk2 with rfl | rfl
          · exact ⟨_, cell_of hI.f 0, entersTk, fun W h => addrTake_any P [122, 122] d5 AK AL ck cl W h HF.out (by decide) (by decide) HNO.out⟩
          · exact ⟨_, cell_of hI.f 1, entersBs, fun W h => addrBest_any P [122, 122] d5 AK AL ck cl W h HF.out (by decide) (by decide) HNO.out⟩
        have hd : decide ((k : Int) < 2) = true := by simp; omega
        have HI := Lib.hid hI
        have HC := Lib.hid (HT wr hI.at_)
        obtain ⟨⟨p0, p1, p2, p3, p4, p5⟩, -⟩ := res6r hI.p
        have n0 := cell_of_one hI.n
        clear hI HT
        go_wp2_with fail
        go_at_fn g
        refine HC.out.mono ?_
        rintro e W5 ⟨hc, hb5⟩
        have HI5 := Lib.hid (HI.out.call hb5)
        clear HC HI hb5 p0 p1 p2 p3 p4 p5 n0
        rcases hc with ⟨g0, rfl, hg0⟩ | ⟨x, AK3, AL3, ck3, cl3, rfl, hp3, hch, -⟩
        · have HG0 := Lib.hid hg0
          clear hg0
          have HI6 := Lib.hid ((HI5.out.al (.cells #[.bool false, .int .u64 0, .int .u64 0, .int .i64 0, .slice none 0 0, .slice none 0 0] 53 (0, 0))).al (.cells #[.bool false, .int .u64 0, .int .u64 0, .int .i64 0] 48 (0, 0)))
          go_upto_region 9 with (fail)
          generalize World.alloc (World.alloc W5 _) _ = V at HI6 ⊢
          have hpa := px_any A6 c6 Q6 25 #[.pointer (some ⟨P6, 0, none⟩)] (fun y => decide (y.bits ≤ d5)) V entersW1 HI6.out.px (by omega) (fun U e _ hbv => lawF1 e d5 P6 U ((hbv.block _ (lt_of_block HI6.out.n)).trans HI6.out.n))
          rcases HG0.out with rfl | ⟨rfl, hfull⟩
          · generalize Q6.any _ = q at hpa
            go_wp2_with fail
            refine hpa.mono ?_
            rintro e V2 ⟨rfl, hb⟩
            have HI7 := Lib.hid (HI6.out.call hb)
            clear hpa hb HI6
            cases q
            · go_wp2_with fail
              go_roundw
              case rel => exact ⟨k + 1, by omega, by simp, HI7.out⟩
              case measure => simp [intOf]; omega
            · go_wp2_with fail
              go_roundw
              case rel => exact ⟨k + 1, by omega, by simp, HI7.out⟩
              case measure => simp [intOf]; omega
          · rw [hfull.none HF.out HSET.out HHAS.out] at hpa
            go_wp2_with fail
            refine hpa.mono ?_
            rintro e V2 ⟨rfl, hb⟩
            have HI7 := Lib.hid (HI6.out.call hb)
            clear hpa hb HI6 hfull
            go_wp2_with fail
            go_roundw
            case rel => exact ⟨k + 1, by omega, by simp, HI7.out⟩
            case measure => simp [intOf]; omega
        · obtain ⟨hfq, hlq, hfree, hokx, hxf⟩ := hch.lease (key := [122, 122]) HF.out H4.out (by decide) (by decide) HNO.out
          have hxn := hch.1
          have hp3' : PlAt W5 (leaseP P [122, 122] x) AK3 AL3 cl3 := hp3
          have hal1 := ((Below.refl W5.heap.size W5).alloc (Nat.le_refl _) (.cells #[.bool P.pf.six, .int .u64 P.pf.hi, .int .u64 P.pf.lo, .int .i64 P.pf.bits, .slice AK3 P.kept.length ck3, .slice AL3 (P.ls.length + 1) cl3] 53 (0, 0)))
          have hal2 := hal1.alloc hal1.size (.cells #[.bool x.six, .int .u64 x.hi, .int .u64 x.lo, .int .i64 x.bits] 48 (0, 0))
          have HI6 := Lib.hid (HI5.out.call hal2)
          have HQ6 := Lib.hid (hp3'.below hal2)
          have BQ := Lib.hid (al21 W5 (.cells #[.bool P.pf.six, .int .u64 P.pf.hi, .int .u64 P.pf.lo, .int .i64 P.pf.bits, .slice AK3 P.kept.length ck3, .slice AL3 (P.ls.length + 1) cl3] 53 (0, 0)) (.cells #[.bool x.six, .int .u64 x.hi, .int .u64 x.lo, .int .i64 x.bits] 48 (0, 0)))
          have BX := Lib.hid (al22 W5 (.cells #[.bool P.pf.six, .int .u64 P.pf.hi, .int .u64 P.pf.lo, .int .i64 P.pf.bits, .slice AK3 P.kept.length ck3, .slice AL3 (P.ls.length + 1) cl3] 53 (0, 0)) (.cells #[.bool x.six, .int .u64 x.hi, .int .u64 x.lo, .int .i64 x.bits] 48 (0, 0)))
          have HFQ := Lib.hid hfq
          have HLQ := Lib.hid hlq
          have HFR := Lib.hid hfree
          have HXF := Lib.hid hxf
          have HOX := Lib.hid hokx
          have HXN := Lib.hid hxn
          have eQ1 : (leaseP P [122, 122] x).pf = P.pf := rfl
          have eQ2 : (leaseP P [122, 122] x).kept = P.kept := rfl
          have EQ := Lib.hid (And.intro eQ1 eQ2)
          unfold plV
          clear hp3 hp3' hch hal1 hal2 HI5 hfq hlq hfree hxf hokx hxn eQ1 eQ2
          go_upto_region 9 with (fail)
          generalize World.alloc (World.alloc W5 _) _ = V at HI6 HQ6 BQ BX ⊢
          generalize W5.heap.size = qb at BQ BX ⊢
          obtain ⟨⟨x0, x1, x2, x3⟩, -⟩ := res4 BX.out
          have hv1 := (Below.refl V.heap.size V).alloc (Nat.le_refl _) (.cells #[.bool x.six, .int .u64 x.hi, .int .u64 x.lo, .int .i64 x.bits] 48 (0, 0))
          have hcv := covers_set A6 (some ⟨V.heap.size, 0, none⟩) c6 1 Q6 [x] T6 [bkS (bkP x)] (V.alloc (.cells #[.bool x.six, .int .u64 x.hi, .int .u64 x.lo, .int .i64 x.bits] 48 (0, 0))) (HI6.out.px.below hv1) (px_one_at (heap_alloc_new V (.cells #[.bool x.six, .int .u64 x.hi, .int .u64 x.lo, .int .i64 x.bits] 48 (0, 0)))) HSET.out (set_one HOX.out) (by omega) (by simp)
          go_wp2_with fail
          refine hcv.mono ?_
          rintro e V2 ⟨bb, TT, rfl, ht, hnn, hbt, hb⟩
          have hbb : bb = true := hbt.2 (set_eq hnn ⟨(by intro z hz; cases hz), List.Pairwise.nil⟩ (fun q => ⟨fun h => by
            have h2 := (ht q).1 h
            rw [one_has, HHAS.out] at h2
            exact absurd (HXF.out q h2.1) h2.2, fun h => absurd h (hasS_nil q)⟩))
          subst hbb
          have hv2 := hv1.trans (hb.mono hv1.size)
          have HI7 := Lib.hid (HI6.out.call hv2)
          have HQ7 := Lib.hid (HQ6.out.below hv2)
          have BQ7 := Lib.hid ((hv2.block _ (lt_of_block BQ.out)).trans BQ.out)
          have BX7 := Lib.hid ((hv2.block _ (lt_of_block BX.out)).trans BX.out)
          clear hcv ht hnn hbt hb hv1 hv2 x0 x1 x2 x3 HI6 HQ6 BQ BX
          obtain ⟨⟨p0, p1, p2, p3, p4, p5⟩, -⟩ := res6r BQ7.out
          have hfr := addrFree_any (leaseP P [122, 122] x) AK3 AL3 ck3 cl3 V2 HQ7.out HFQ.out
          unfold plV at hfr
          rw [EQ.out.1, EQ.out.2, HLQ.out] at hfr
          go_wp2_with fail
          refine hfr.mono ?_
          rintro e V3 ⟨v8, rfl, hvs8, hb⟩
          have HI8 := Lib.hid (HI7.out.call hb)
          have HQ8 := Lib.hid (HQ7.out.below hb)
          have BQ8 := Lib.hid ((hb.block _ (lt_of_block BQ7.out)).trans BQ7.out)
          have BX8 := Lib.hid ((hb.block _ (lt_of_block BX7.out)).trans BX7.out)
          have HV8 := Lib.hid hvs8
          clear hfr hb hvs8 p0 p1 p2 p3 p4 p5 HI7 HQ7 BQ7 BX7
          obtain ⟨⟨x0, x1, x2, x3⟩, -⟩ := res4 BX8.out
          have hv1 := (Below.refl V3.heap.size V3).alloc (Nat.le_refl _) (.cells #[.bool x.six, .int .u64 x.hi, .int .u64 x.lo, .int .i64 x.bits] 48 (0, 0))
          have hwo := (without_set A6 (some ⟨V3.heap.size, 0, none⟩) c6 1 Q6 [x] T6 [bkS (bkP x)] (V3.alloc (.cells #[.bool x.six, .int .u64 x.hi, .int .u64 x.lo, .int .i64 x.bits] 48 (0, 0))) (HI8.out.px.below hv1) (px_one_at (heap_alloc_new V3 (.cells #[.bool x.six, .int .u64 x.hi, .int .u64 x.lo, .int .i64 x.bits] 48 (0, 0)))) HSET.out (set_one HOX.out) (by omega) (by simp)).mono fun e w' h => h.vs (q := freeN (leaseP P [122, 122] x)) (fun q => by rw [HHAS.out, one_has]; exact (HFR.out q).symm) (free_bd HFQ.out)
          go_wp2_with fail
          refine hwo.mono ?_
          rintro e V4 ⟨v9, rfl, hvs9, hb⟩
          have hv2 := hv1.trans (hb.mono hv1.size)
          have HI9 := Lib.hid (HI8.out.call hv2)
          have HQ9 := Lib.hid (HQ8.out.below hv2)
          have BQ9 := Lib.hid ((hv2.block _ (lt_of_block BQ8.out)).trans BQ8.out)
          have BX9 := Lib.hid ((hv2.block _ (lt_of_block BX8.out)).trans BX8.out)
          obtain ⟨B1, B2, d1, d2, Q9, rfl, rfl, q1, q2, q3⟩ := VS.same (VS.kept _ _ _ _ HV8.out hv2) hvs9 (fun _ => Iff.rfl)
          have HE1 := Lib.hid q1
          have HE2 := Lib.hid q2
          clear hwo hb hvs9 hv1 hv2 x0 x1 x2 x3 HI8 HQ8 BQ8 BX8 HV8 q1 q2
          obtain ⟨⟨p0, p1, p2, p3, p4, p5⟩, -⟩ := res6r BQ9.out
          obtain ⟨⟨k0, k1, k2, k3, k4, k5⟩, -⟩ := res6r HI9.out.p
          obtain ⟨⟨x0, x1, x2, x3⟩, -⟩ := res4 BX9.out
          have n0 := cell_of_one HI9.out.n
          have hbx : (x.bits != d5) = false := by rw [HXN.out]; simp
          have hck := HQ9.out.check HFQ.out ck3
          unfold plV at hck
          rw [EQ.out.1, EQ.out.2, HLQ.out] at hck
          go_wp2_with fail
          refine hck.mono ?_
          rintro e V5 ⟨rfl, hb⟩
          have HI10 := Lib.hid (HI9.out.call hb)
          have hpe := px_equal B1 B2 d1 d2 Q9 V5 (HE1.out.below hb) (HE2.out.below hb) (by omega)
          have BQ10 := Lib.hid ((hb.block _ (lt_of_block BQ9.out)).trans BQ9.out)
          clear hck hb HI9 HQ9 BQ9 BX9 HE1 HE2 p0 p1 p2 p3 p4 p5 k0 k1 k2 k3 k4 k5 x0 x1 x2 x3 n0
          go_wp2_with fail
          refine hpe.mono ?_
          rintro e V6 ⟨rfl, hb⟩
          have HI11 := Lib.hid (HI10.out.call hb)
          have BQ11 := Lib.hid ((hb.block _ (lt_of_block BQ10.out)).trans BQ10.out)
          obtain ⟨⟨p0, p1, p2, p3, p4, p5⟩, -⟩ := res6r BQ11.out
          obtain ⟨⟨k0, k1, k2, k3, k4, k5⟩, -⟩ := res6r HI11.out.p
          have hln : IntKind.i64.wrap ((P.ls.length : Int) + 1) = (P.ls.length : Int) + 1 := wrap_small _ (by omega) (by have := H4.out; omega)
          clear hpe hb HI10 BQ10
          go_wp2_with fail
          go_roundw
          case rel => exact ⟨k + 1, by omega, by simp, HI11.out⟩
          case measure => simp [intOf]; omega
      · have HI := Lib.hid hI
        clear hI
        obtain ⟨⟨p0, p1, p2, p3, p4, p5⟩, -⟩ := res6r HI.out.p
        have hpk := pack_any P AK AL ck cl wr HI.out.at_ HF.out
        unfold plV at hpk
        go_wp2_with fail
        refine hpk.mono ?_
        rintro e V1 ⟨Q, AK4, AL4, ck4, cl4, rfl, hp4, hf4, hpf4, hmap, hb⟩
        have HI2 := Lib.hid (HI.out.call hb)
        have hal := (Below.refl V1.heap.size V1).alloc (Nat.le_refl _) (.cells #[.bool P.pf.six, .int .u64 P.pf.hi, .int .u64 P.pf.lo, .int .i64 P.pf.bits, .slice AK4 Q.kept.length ck4, .slice AL4 Q.ls.length cl4] 53 (0, 0))
        have HI3 := Lib.hid (HI2.out.call hal)
        have HP4 := Lib.hid (hp4.below hal)
        have BQ := Lib.hid (heap_alloc_new V1 (.cells #[.bool P.pf.six, .int .u64 P.pf.hi, .int .u64 P.pf.lo, .int .i64 P.pf.bits, .slice AK4 Q.kept.length ck4, .slice AL4 Q.ls.length cl4] 53 (0, 0)))
        have HF4 := Lib.hid hf4
        have HPF4 := Lib.hid hpf4
        have HMP := Lib.hid hmap
        clear hpk hb hal hp4 hf4 hpf4 hmap HI HI2 p0 p1 p2 p3 p4 p5
        unfold plV
        go_upto_region 19 with (fail)
        generalize World.alloc V1 _ = V2 at HI3 HP4 BQ ⊢
        generalize V1.heap.size = qb at BQ ⊢
        obtain ⟨⟨p0, p1, p2, p3, p4, p5⟩, -⟩ := res6r HI3.out.p
        obtain ⟨⟨k0, k1, k2, k3, k4, k5⟩, -⟩ := res6r BQ.out
        have hsm := le_same AL AL4 cl cl4 P.ls Q.ls V2 HI3.out.at_.ls HP4.out.ls (by have := H4.out; omega) HMP.out
        go_wp2_with fail
        refine hsm.mono ?_
        rintro e V3 ⟨rfl, hb⟩
        have HI5 := Lib.hid (HI3.out.call hb)
        have BQ5 := Lib.hid ((hb.block _ (lt_of_block BQ.out)).trans BQ.out)
        have hck := (HP4.out.below hb).check HF4.out ck4
        unfold plV at hck
        rw [HPF4.out] at hck
        clear hsm hb HI3 BQ HP4 p0 p1 p2 p3 p4 p5 k0 k1 k2 k3 k4 k5
        obtain ⟨⟨k0, k1, k2, k3, k4, k5⟩, -⟩ := res6r BQ5.out
        go_wp2_with fail
        refine hck.mono ?_
        rintro e V4 ⟨rfl, hb⟩
        have HI6 := Lib.hid (HI5.out.call hb)
        have hrd := ready2 V4 (HM.out.below (by have := HI6.out.below; rw [HBW.out] at this; exact this))
        clear hck hb HI5 k0 k1 k2 k3 k4 k5
        go_wp2_with fail
        refine hrd.mono ?_
        rintro e V5 ⟨rfl, hb⟩
        have HI7 := Lib.hid (HI6.out.call hb)
        clear hrd hb HI6
        go_wp2_with fail
        go_ret
        exact ⟨rfl, by have := HI7.out.below; rw [HBW.out] at this; exact this⟩
  -- END R3
end Go.Proofs.YtajifionclpphaaGreatDoor
