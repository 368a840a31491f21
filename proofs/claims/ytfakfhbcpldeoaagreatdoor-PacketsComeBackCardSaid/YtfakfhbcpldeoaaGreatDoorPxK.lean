/- Packets as bytes: readFour. -/
import Derived.Test.YtfakfhbcpldeoaaGreatDoorPxJ
import Derived.Test.YtfakfhbcpldeoaaGreatDoorRgU
namespace Go.Proofs.YtfakfhbcpldeoaaGreatDoor
open Go.RowKit Go.Hw

theorem byt0 (b : List UInt8) (i : Nat) : (bytB b i == 0) = (b.getD i 0 == 0) := by
  unfold bytB
  by_cases h : b.getD i 0 = 0
  · rw [h]; rfl
  · have h1 : (b.getD i 0).toNat ≠ 0 := fun e => h (UInt8.toNat_inj.1 (by simpa using e))
    rw [beq_eq_false_iff_ne.2 h, beq_eq_false_iff_ne.2 h1]
theorem ok4_eq (b : List UInt8) : ok4 b = (decide (20 ≤ b.length) && sumP (put2 (b.take 20) 10 0) == takeN (subB b 10 12) && takeN (subB b 2 4) == b.length && allZ [b.getD 1 0, b.getD 4 0, b.getD 5 0, b.getD 6 0, b.getD 7 0]) := by
  unfold ok4 allZ
  simp only [byt0, List.all_cons, List.all_nil, Bool.and_true, Bool.and_assoc]
theorem bAt.get {w : World} {g off : Nat} {b : List UInt8} (h : bAt w (some ⟨g, off, none⟩) b) (i : Nat) (hi : i < b.length) : w.cell? ⟨g, off + i, none⟩ = some (.int .u8 (b.getD i 0).toNat) ∧ g < w.heap.size := by
  obtain ⟨g', off', e, hl, hx⟩ := h i (b[i]'hi) (by simp)
  injection e with e
  injection e with e1 e2
  subst e1
  subst e2
  exact ⟨by rw [hx, List.getD_eq_getElem?_getD, List.getElem?_eq_getElem hi]; rfl, hl⟩
def FrOut (P g off n cap : Nat) (w : World) (ok : Bool) (k : Nat) (q : Pk) (e : Ending) (w' : World) : Prop :=
  (ok = true → e = .returned (.tuple #[.slice (some ⟨g, off + k, none⟩) (n - k) (cap - k), .int .i64 0]) ∧ w'.heap[P]? = some (.cells (pkA q) 31 (0, 0))) ∧
  (ok = false → ∃ c : Int, c ≠ 0 ∧ e = .returned (.tuple #[.slice none 0 0, .int .i64 c])) ∧ Rchg (fun k => k = P) w w'
set_option maxRecDepth 100000 in
set_option maxHeartbeats 4000000 in
theorem readFour_any (P g n cap : Nat) (b : List UInt8) (w : World) (hb : bAt w (some ⟨g, 0, none⟩) b) (hl : b.length = n) (hn : 21 ≤ n) (hc : n ≤ cap) (hs : n ≤ 5000) (hP : w.heap[P]? = some (.cells (pkA noPk) 31 (0, 0))) (hgP : g ≠ P) :
    Calls Tryz.prog 18 #[.pointer (some ⟨P, 0, none⟩), .slice (some ⟨g, 0, none⟩) n cap] w (FrOut P g 0 n cap w (ok4 b) 20 (pk4 b)) := by
  have d0 : decide ((20 : Int) ≤ (cap : Int)) = true := by simp; omega
  have d1 : 20 ≤ cap := by omega
  have hcl := cloneB_any g 0 20 cap (b.take 20) w (hb.take 20) (by simp; omega) (by omega)
  have HB := Lib.hid hb
  have HP := Lib.hid hP
  clear hb hP
  go_enter Tryz.func18, Tryz.ntmps18
  go_wp2_with fail
  refine hcl.mono ?_
  rintro e W1 ⟨A1, cap1, rfl, ho1, hb1⟩
  obtain ⟨g1, rfl, hg1, hg1l, hn1⟩ := ho1.ex (by omega)
  obtain ⟨x1, hx1⟩ := ho1.cell 10 (by omega)
  obtain ⟨x2, hx2⟩ := ho1.cell 11 (by omega)
  have f1 := ho1.froz 10
  have f2 := ho1.froz 11
  have HO2 : Hid (bOwn ((W1.setCell ⟨g1, 10, none⟩ (.int .u8 0)).setCell ⟨g1, 11, none⟩ (.int .u8 0)) w.heap.size (some ⟨g1, 0, none⟩) 20 cap1 (put2 (b.take 20) 10 0)) := Lib.hid ((ho1.put 10 0).put 11 0)
  have HB2 : Hid (Below w.heap.size w ((W1.setCell ⟨g1, 10, none⟩ (.int .u8 0)).setCell ⟨g1, 11, none⟩ (.int .u8 0))) := Lib.hid (bl_set (bl_set hb1 (by omega)) (by omega))
  clear hcl ho1 hb1
  go_upto_region 3 with (fail)
  generalize hW : World.setCell _ _ _ = W2 at HO2 HB2 ⊢
  clear hW hx1 hx2 f1 f2
  have hsum := sum_any2 (some ⟨g1, 0, none⟩) cap1 (put2 (b.take 20) 10 0) W2.drew HO2.out.at_ (by have := HO2.out.1; omega)
  rw [HO2.out.1] at hsum
  have hta := take_sub g 0 (cap - 10) b 10 2 W2.drew (HB.out.below HB2.out.drew) (by omega) (by omega)
  have htl : takeN (subB b 10 (10 + 2)) < 65536 := by
    have h1 := takeN_lt (subB b 10 (10 + 2))
    have h2 : (subB b 10 (10 + 2)).length = 2 := by simp [subB]; omega
    rw [h2] at h1
    omega
  have HOK : Hid (ok4 b = (decide (20 ≤ b.length) && sumP (put2 (b.take 20) 10 0) == takeN (subB b 10 12) && takeN (subB b 2 4) == b.length && allZ [b.getD 1 0, b.getD 4 0, b.getD 5 0, b.getD 6 0, b.getD 7 0])) := Lib.hid (ok4_eq b)
  generalize hs1 : sumP (put2 (b.take 20) 10 0) = sv at hsum HOK
  generalize ht1 : takeN (subB b 10 (10 + 2)) = tv at hta htl
  have ht1' : takeN (subB b 10 12) = tv := ht1
  rw [ht1'] at HOK
  have s1 : IntKind.i64.wrap (tv : Int) = (tv : Int) := IntWalk.i64_in _ (by omega)
  have d2 : (12 : Int) ≤ (cap : Int) := by omega
  have d3 : 12 ≤ cap := by omega
  clear hs1 ht1 ht1'
  by_cases hst : sv = tv
  · have e1 : ((sv : Int) != (tv : Int)) = false := by simp [hst]
    have HST := Lib.hid hst
    clear hst
    go_cut [14] from 15 to 21 (fun v14 wc => v14 = .bool false ∧ Below W2.heap.size W2 wc)
    case first =>
      go_region_with (first
        | (go_at_call 31; refine hsum.mono ?_; rintro e w9 ⟨rfl, rfl⟩)
        | (go_at_call 23; refine hta.mono ?_; rintro e w9 ⟨rfl, rfl⟩))
      all_goals (
        go_wp2_with fail
        go_meet
        exact ⟨rfl, (Below.refl _ _).drew⟩)
    case rest =>
    obtain ⟨rfl, hbc⟩ := hcut
    obtain ⟨W3, rfl⟩ : ∃ W3 : World, W3 = wc := ⟨_, rfl⟩
    have HBC : Hid (Below w.heap.size w W3) := Lib.hid (HB2.out.trans (hbc.mono HB2.out.size))
    clear hsum hta e1 s1 hbc
    go_upto_region 5 with (fail)
    have HB3 := Lib.hid (HB.out.below HBC.out)
    have htb := take_sub g 0 (cap - 2) b 2 2 W3 HB3.out (by omega) (by omega)
    have hul : takeN (subB b 2 (2 + 2)) < 65536 := by
      have h1 := takeN_lt (subB b 2 (2 + 2))
      have h2 : (subB b 2 (2 + 2)).length = 2 := by simp [subB]; omega
      rw [h2] at h1
      omega
    generalize ht1 : takeN (subB b 2 (2 + 2)) = uv at htb hul
    have ht1' : takeN (subB b 2 4) = uv := ht1
    rw [ht1'] at HOK
    have s1 : IntKind.i64.wrap (uv : Int) = (uv : Int) := IntWalk.i64_in _ (by omega)
    have d4 : (4 : Int) ≤ (cap : Int) := by omega
    have d5 : 4 ≤ cap := by omega
    have HU : Hid (takeN (subB b 2 4) = uv) := Lib.hid ht1'
    clear ht1 ht1'
    by_cases hun : uv = n
    · have e1 : ((uv : Int) != (n : Int)) = false := by simp [hun]
      have HUN := Lib.hid hun
      clear hun
      obtain ⟨y1, hy1⟩ : ∃ y, b.getD 1 0 = y := ⟨_, rfl⟩
      obtain ⟨y4, hy4⟩ : ∃ y, b.getD 4 0 = y := ⟨_, rfl⟩
      obtain ⟨y5, hy5⟩ : ∃ y, b.getD 5 0 = y := ⟨_, rfl⟩
      obtain ⟨y6, hy6⟩ : ∃ y, b.getD 6 0 = y := ⟨_, rfl⟩
      obtain ⟨y7, hy7⟩ : ∃ y, b.getD 7 0 = y := ⟨_, rfl⟩
      have k1 := HB3.out.get 1 (by omega)
      have k4 := (HB3.out.get 4 (by omega)).1
      have k5 := (HB3.out.get 5 (by omega)).1
      have k6 := (HB3.out.get 6 (by omega)).1
      have k7 := (HB3.out.get 7 (by omega)).1
      rw [hy1] at k1
      rw [hy4] at k4
      rw [hy5] at k5
      rw [hy6] at k6
      rw [hy7] at k7
      rw [hy1, hy4, hy5, hy6, hy7] at HOK
      have q1 : W3.cell? ⟨g, 1, none⟩ = some (.int .u8 y1.toNat) := k1.1
      have q4 : W3.cell? ⟨g, 4, none⟩ = some (.int .u8 y4.toNat) := k4
      have q5 : W3.cell? ⟨g, 5, none⟩ = some (.int .u8 y5.toNat) := k5
      have q6 : W3.cell? ⟨g, 6, none⟩ = some (.int .u8 y6.toNat) := k6
      have q7 : W3.cell? ⟨g, 7, none⟩ = some (.int .u8 y7.toNat) := k7
      have gl : g < W3.heap.size := k1.2
      have l1 : (1 : Int) < (n : Int) := by omega
      have l4 : (4 : Int) < (n : Int) := by omega
      have l5 : (5 : Int) < (n : Int) := by omega
      have l6 : (6 : Int) < (n : Int) := by omega
      have l7 : (7 : Int) < (n : Int) := by omega
      have hz := fun (W : World) (gz : Nat) (hW : W.heap[gz]? = some (.cells #[.int .u8 y1.toNat, .int .u8 y4.toNat, .int .u8 y5.toNat, .int .u8 y6.toNat, .int .u8 y7.toNat] 5 (0, 0))) => zeros_any (some ⟨gz, 0, none⟩) 5 [y1, y4, y5, y6, y7] W (bAt.new hW rfl) (by simp)
      clear k1 k4 k5 k6 k7 hy1 hy4 hy5 hy6 hy7
      generalize hzz : allZ [y1, y4, y5, y6, y7] = zb at hz HOK
      clear hzz
      go_cut [22] from 23 to 49 (fun v22 wc => v22 = .bool (!zb) ∧ Below W3.heap.size W3 wc)
      case first =>
        -- @R5a BEGIN
        refine wp_region_free 27 (fun f' => ⟨#[.pointer (some ⟨P, 0, none⟩), .slice (some ⟨g, 0, none⟩) n cap, undef, undef, .slice none 0 0, .int .i64 0, .slice (some ⟨g1, 0, none⟩) 20 cap1, .slice (some ⟨g, 0, none⟩) n cap, .slice (some ⟨g, 0, none⟩) 20 cap, .slice (some ⟨g1, 0, none⟩) 20 cap1, .slice (some ⟨g1, 0, none⟩) 20 cap1, .slice (some ⟨g1, 0, none⟩) 20 cap1, .pointer (some ⟨g1, 10, none⟩), .pointer (some ⟨g1, 11, none⟩), .bool false, u15, u16, u17, u18, u19, u20, u21, undef, f' 0, f' 1, f' 2, f' 3, f' 4, f' 5, f' 6, f' 7, f' 8, f' 9, f' 10, f' 11, f' 12, f' 13, f' 14, f' 15, f' 16, f' 17, f' 18, f' 19, f' 20, f' 21, f' 22, f' 23, f' 24, f' 25, f' 26, undef, undef, undef, undef, undef, undef, undef, undef, undef, undef, undef, undef, undef, undef, undef, undef, undef, undef, undef, undef, undef, undef, undef, undef, undef, undef, undef, undef], []⟩) (VL [VIs (.slice (some ⟨g, 0, none⟩) n cap), VIs (.slice (some ⟨g, 2, none⟩) 2 (cap - 2)), VIs (.int .u64 uv), VIs (.int .i64 uv), VIs (.slice (some ⟨g, 0, none⟩) n cap), VIs (.int .i64 n), VIs (.bool false), VIs (.bool false), VIs (.slice (some ⟨g, 0, none⟩) n cap), VIs (.pointer (some ⟨g, 1, none⟩)), VIs (.int .u8 y1.toNat), VIs (.slice (some ⟨g, 0, none⟩) n cap), VIs (.pointer (some ⟨g, 4, none⟩)), VIs (.int .u8 y4.toNat), VIs (.slice (some ⟨g, 0, none⟩) n cap), VIs (.pointer (some ⟨g, 5, none⟩)), VIs (.int .u8 y5.toNat), VIs (.slice (some ⟨g, 0, none⟩) n cap), VIs (.pointer (some ⟨g, 6, none⟩)), VIs (.int .u8 y6.toNat), VIs (.slice (some ⟨g, 0, none⟩) n cap), VIs (.pointer (some ⟨g, 7, none⟩)), VIs (.int .u8 y7.toNat), (fun w' v => ∃ gz, v = .slice (some ⟨gz, 0, none⟩) 5 5 ∧ w'.heap[gz]? = some (.cells #[.int .u8 y1.toNat, .int .u8 y4.toNat, .int .u8 y5.toNat, .int .u8 y6.toNat, .int .u8 y7.toNat] 5 (0, 0))), VIs (.bool zb), VIs (.bool (!zb)), VIs (.bool (!zb))]) (fun _ w' => Below W3.heap.size W3 w') (fun w w' => w.grownBy w' none) (fun _ => undef) (10) (show Tryz.prog.follows .mixedOrders = true from by kernel_rfl) (by kernel_rfl) ?_ ?_ ?_ ((Below.refl _ _).drew)
        · exact fun i w w' v h hg => VL.stabG (Gr := fun w w' => w.grownBy w' none) (by
            intro q hq w w' v hv hg
            simp only [List.mem_cons, List.mem_nil_iff, or_false] at hq
            rcases hq with rfl | rfl | rfl | rfl | rfl | rfl | rfl | rfl | rfl | rfl | rfl | rfl | rfl | rfl | rfl | rfl | rfl | rfl | rfl | rfl | rfl | rfl | rfl | rfl | rfl | rfl | rfl <;> first | exact hv | (obtain ⟨gz, h1, h2⟩ := hv; exact ⟨gz, h1, (hg.block gz (lt_of_block h2) (by simp)).trans h2⟩)) i w w' v h hg
        · intro i o hi ho f' w' k hk hG hd
          have HGB := Lib.hid (HB3.out.below hG)
          have q1 : w'.cell? ⟨g, 1, none⟩ = some (.int .u8 y1.toNat) := (hG.cell (p := ⟨g, 1, none⟩) gl).trans q1
          have q4 : w'.cell? ⟨g, 4, none⟩ = some (.int .u8 y4.toNat) := (hG.cell (p := ⟨g, 4, none⟩) gl).trans q4
          have q5 : w'.cell? ⟨g, 5, none⟩ = some (.int .u8 y5.toNat) := (hG.cell (p := ⟨g, 5, none⟩) gl).trans q5
          have q6 : w'.cell? ⟨g, 6, none⟩ = some (.int .u8 y6.toNat) := (hG.cell (p := ⟨g, 6, none⟩) gl).trans q6
          have q7 : w'.cell? ⟨g, 7, none⟩ = some (.int .u8 y7.toNat) := (hG.cell (p := ⟨g, 7, none⟩) gl).trans q7
          have glw : g < w'.heap.size := Nat.lt_of_lt_of_le gl hG.size
          have HG := Lib.hid hG
          clear hG
          have hcase : i = 0 ∨ i = 1 ∨ i = 2 ∨ i = 3 ∨ i = 4 ∨ i = 5 ∨ i = 6 ∨ i = 7 ∨ i = 8 ∨ i = 9 ∨ i = 10 ∨ i = 11 ∨ i = 12 ∨ i = 13 ∨ i = 14 ∨ i = 15 ∨ i = 16 ∨ i = 17 ∨ i = 18 ∨ i = 19 ∨ i = 20 ∨ i = 21 ∨ i = 22 ∨ i = 23 ∨ i = 24 ∨ i = 25 ∨ i = 26 := by omega
          rcases hcase with rfl | rfl | rfl | rfl | rfl | rfl | rfl | rfl | rfl | rfl | rfl | rfl | rfl | rfl | rfl | rfl | rfl | rfl | rfl | rfl | rfl | rfl | rfl | rfl | rfl | rfl | rfl <;> (replace ho := Option.some.inj ho; subst ho)
          · refine OpStep.of rfl ?_
            unfold Oper.wp
            go_simp
            exact ⟨_, (by simp [upd]), rfl, HG.out, World.grownBy.refl _ _⟩
          · have e0 : f' 0 = _ := hd ⟨0, .data⟩ (by simp) rfl
            refine OpStep.of rfl ?_
            unfold Oper.wp
            go_simp
            exact ⟨_, (by first | (simp [upd, e0]; done) | (simp [upd, e0]; omega)), rfl, HG.out, World.grownBy.refl _ _⟩
          · have e1 : f' 1 = _ := hd ⟨1, .data⟩ (by simp) rfl
            refine OpStep.of rfl ?_
            unfold Oper.wp
            go_simp
            refine (take_sub g 0 (cap - 2) b 2 2 w' HGB.out (by omega) (by omega)).mono ?_
            rintro e w9 ⟨rfl, rfl⟩
            exact ⟨_, (by simp [upd, e1, HU.out]), rfl, HG.out, World.grownBy.refl _ _⟩
          · have e2 : f' 2 = _ := hd ⟨2, .data⟩ (by simp) rfl
            refine OpStep.of rfl ?_
            unfold Oper.wp
            go_simp
            exact ⟨_, (by simp [upd, e2]), rfl, HG.out, World.grownBy.refl _ _⟩
          · refine OpStep.of rfl ?_
            unfold Oper.wp
            go_simp
            exact ⟨_, (by simp [upd]), rfl, HG.out, World.grownBy.refl _ _⟩
          · have e4 : f' 4 = _ := hd ⟨4, .data⟩ (by simp) rfl
            refine OpStep.of rfl ?_
            unfold Oper.wp
            go_simp
            exact ⟨_, (by simp [upd, e4]), rfl, HG.out, World.grownBy.refl _ _⟩
          · have e3 : f' 3 = _ := hd ⟨3, .data⟩ (by simp) rfl
            have e5 : f' 5 = _ := hd ⟨5, .data⟩ (by simp) rfl
            refine OpStep.of rfl ?_
            unfold Oper.wp
            go_simp
            exact ⟨_, (by simp [upd, e3, e5]), rfl, HG.out, World.grownBy.refl _ _⟩
          · have e6 : f' 6 = _ := hd ⟨6, .data⟩ (by simp) rfl
            refine OpStep.of rfl ?_
            unfold Oper.wp
            go_simp
            exact ⟨_, (by simp [upd, e6]), rfl, HG.out, World.grownBy.refl _ _⟩
          · refine OpStep.of (by have e7 : f' 7 = _ := hd ⟨7, .guard⟩ (by simp) rfl; simp [Region.wanted, yielded, e7]) ?_
            unfold Oper.wp
            go_simp
            exact ⟨_, (by simp [upd]), rfl, HG.out, World.grownBy.refl _ _⟩
          · have e8 : f' 8 = _ := hd ⟨8, .data⟩ (by simp) rfl
            refine OpStep.of (by have e7 : f' 7 = _ := hd ⟨7, .guard⟩ (by simp) rfl; simp [Region.wanted, yielded, e7]) ?_
            unfold Oper.wp
            go_simp
            exact ⟨_, (by simp [upd, e8]), rfl, HG.out, World.grownBy.refl _ _⟩
          · have e9 : f' 9 = _ := hd ⟨9, .data⟩ (by simp) rfl
            refine OpStep.of (by have e7 : f' 7 = _ := hd ⟨7, .guard⟩ (by simp) rfl; simp [Region.wanted, yielded, e7]) ?_
            unfold Oper.wp
            go_simp
            exact ⟨_, (by simp [upd, e9]), rfl, HG.out, World.grownBy.refl _ _⟩
          · refine OpStep.of (by have e7 : f' 7 = _ := hd ⟨7, .guard⟩ (by simp) rfl; simp [Region.wanted, yielded, e7]) ?_
            unfold Oper.wp
            go_simp
            exact ⟨_, (by simp [upd]), rfl, HG.out, World.grownBy.refl _ _⟩
          · have e11 : f' 11 = _ := hd ⟨11, .data⟩ (by simp) rfl
            refine OpStep.of (by have e7 : f' 7 = _ := hd ⟨7, .guard⟩ (by simp) rfl; simp [Region.wanted, yielded, e7]) ?_
            unfold Oper.wp
            go_simp
            exact ⟨_, (by simp [upd, e11]), rfl, HG.out, World.grownBy.refl _ _⟩
          · have e12 : f' 12 = _ := hd ⟨12, .data⟩ (by simp) rfl
            refine OpStep.of (by have e7 : f' 7 = _ := hd ⟨7, .guard⟩ (by simp) rfl; simp [Region.wanted, yielded, e7]) ?_
            unfold Oper.wp
            go_simp
            exact ⟨_, (by simp [upd, e12]), rfl, HG.out, World.grownBy.refl _ _⟩
          · refine OpStep.of (by have e7 : f' 7 = _ := hd ⟨7, .guard⟩ (by simp) rfl; simp [Region.wanted, yielded, e7]) ?_
            unfold Oper.wp
            go_simp
            exact ⟨_, (by simp [upd]), rfl, HG.out, World.grownBy.refl _ _⟩
          · have e14 : f' 14 = _ := hd ⟨14, .data⟩ (by simp) rfl
            refine OpStep.of (by have e7 : f' 7 = _ := hd ⟨7, .guard⟩ (by simp) rfl; simp [Region.wanted, yielded, e7]) ?_
            unfold Oper.wp
            go_simp
            exact ⟨_, (by simp [upd, e14]), rfl, HG.out, World.grownBy.refl _ _⟩
          · have e15 : f' 15 = _ := hd ⟨15, .data⟩ (by simp) rfl
            refine OpStep.of (by have e7 : f' 7 = _ := hd ⟨7, .guard⟩ (by simp) rfl; simp [Region.wanted, yielded, e7]) ?_
            unfold Oper.wp
            go_simp
            exact ⟨_, (by simp [upd, e15]), rfl, HG.out, World.grownBy.refl _ _⟩
          · refine OpStep.of (by have e7 : f' 7 = _ := hd ⟨7, .guard⟩ (by simp) rfl; simp [Region.wanted, yielded, e7]) ?_
            unfold Oper.wp
            go_simp
            exact ⟨_, (by simp [upd]), rfl, HG.out, World.grownBy.refl _ _⟩
          · have e17 : f' 17 = _ := hd ⟨17, .data⟩ (by simp) rfl
            refine OpStep.of (by have e7 : f' 7 = _ := hd ⟨7, .guard⟩ (by simp) rfl; simp [Region.wanted, yielded, e7]) ?_
            unfold Oper.wp
            go_simp
            exact ⟨_, (by simp [upd, e17]), rfl, HG.out, World.grownBy.refl _ _⟩
          · have e18 : f' 18 = _ := hd ⟨18, .data⟩ (by simp) rfl
            refine OpStep.of (by have e7 : f' 7 = _ := hd ⟨7, .guard⟩ (by simp) rfl; simp [Region.wanted, yielded, e7]) ?_
            unfold Oper.wp
            go_simp
            exact ⟨_, (by simp [upd, e18]), rfl, HG.out, World.grownBy.refl _ _⟩
          · refine OpStep.of (by have e7 : f' 7 = _ := hd ⟨7, .guard⟩ (by simp) rfl; simp [Region.wanted, yielded, e7]) ?_
            unfold Oper.wp
            go_simp
            exact ⟨_, (by simp [upd]), rfl, HG.out, World.grownBy.refl _ _⟩
          · have e20 : f' 20 = _ := hd ⟨20, .data⟩ (by simp) rfl
            refine OpStep.of (by have e7 : f' 7 = _ := hd ⟨7, .guard⟩ (by simp) rfl; simp [Region.wanted, yielded, e7]) ?_
            unfold Oper.wp
            go_simp
            exact ⟨_, (by simp [upd, e20]), rfl, HG.out, World.grownBy.refl _ _⟩
          · have e21 : f' 21 = _ := hd ⟨21, .data⟩ (by simp) rfl
            refine OpStep.of (by have e7 : f' 7 = _ := hd ⟨7, .guard⟩ (by simp) rfl; simp [Region.wanted, yielded, e7]) ?_
            unfold Oper.wp
            go_simp
            exact ⟨_, (by simp [upd, e21]), rfl, HG.out, World.grownBy.refl _ _⟩
          · have e10 : f' 10 = _ := hd ⟨10, .data⟩ (by simp) rfl
            have e13 : f' 13 = _ := hd ⟨13, .data⟩ (by simp) rfl
            have e16 : f' 16 = _ := hd ⟨16, .data⟩ (by simp) rfl
            have e19 : f' 19 = _ := hd ⟨19, .data⟩ (by simp) rfl
            have e22 : f' 22 = _ := hd ⟨22, .data⟩ (by simp) rfl
            refine OpStep.of (by have e7 : f' 7 = _ := hd ⟨7, .guard⟩ (by simp) rfl; simp [Region.wanted, yielded, e7]) ?_
            unfold Oper.wp
            go_simp
            exact ⟨_, (by simp [upd, e10, e13, e16, e19, e22]), ⟨_, rfl, al1 _ _⟩, bl_al HG.out, World.grownBy_alloc _ _ _⟩
          · refine OpStep.of (by have e7 : f' 7 = _ := hd ⟨7, .guard⟩ (by simp) rfl; simp [Region.wanted, yielded, e7]) ?_
            obtain ⟨gz, e23, hgz⟩ := hd ⟨23, .data⟩ (by simp) rfl
            unfold Oper.wp
            go_simp
            refine (hz _ gz hgz).mono ?_
            rintro e w9 ⟨rfl, rfl⟩
            exact ⟨_, (by simp [upd, e23]), rfl, HG.out, World.grownBy.refl _ _⟩
          · have e24 : f' 24 = _ := hd ⟨24, .data⟩ (by simp) rfl
            refine OpStep.of (by have e7 : f' 7 = _ := hd ⟨7, .guard⟩ (by simp) rfl; simp [Region.wanted, yielded, e7]) ?_
            unfold Oper.wp
            go_simp
            exact ⟨_, (by simp [upd, e24]), rfl, HG.out, World.grownBy.refl _ _⟩
          · have e7 : f' 7 = _ := hd ⟨7, .data⟩ (by simp) rfl
            have e25 : f' 25 = _ := hd ⟨25, .data⟩ (by simp) rfl
            refine OpStep.of rfl ?_
            unfold Oper.wp
            go_simp
            exact ⟨_, (by simp [upd, e7, e25]), rfl, HG.out, World.grownBy.refl _ _⟩
        · intro o ho f' w' k hk hG hd
          have HGB := Lib.hid (HB3.out.below hG)
          have q1 : w'.cell? ⟨g, 1, none⟩ = some (.int .u8 y1.toNat) := (hG.cell (p := ⟨g, 1, none⟩) gl).trans q1
          have q4 : w'.cell? ⟨g, 4, none⟩ = some (.int .u8 y4.toNat) := (hG.cell (p := ⟨g, 4, none⟩) gl).trans q4
          have q5 : w'.cell? ⟨g, 5, none⟩ = some (.int .u8 y5.toNat) := (hG.cell (p := ⟨g, 5, none⟩) gl).trans q5
          have q6 : w'.cell? ⟨g, 6, none⟩ = some (.int .u8 y6.toNat) := (hG.cell (p := ⟨g, 6, none⟩) gl).trans q6
          have q7 : w'.cell? ⟨g, 7, none⟩ = some (.int .u8 y7.toNat) := (hG.cell (p := ⟨g, 7, none⟩) gl).trans q7
          have glw : g < w'.heap.size := Nat.lt_of_lt_of_le gl hG.size
          have HG := Lib.hid hG
          clear hG
          have e26 : f' 26 = _ := hd 26 (by omega)
          replace ho := Option.some.inj ho
          subst ho
          refine ⟨rfl, ?_⟩
          unfold Oper.wp
          go_simp
          go_step
          go_meet
          exact ⟨rfl, HG.out⟩
        -- @R5a END
      case rest =>
        obtain ⟨rfl, hb3⟩ := hcut
        have HB4 := Lib.hid (HBC.out.trans (hb3.mono HBC.out.size))
        clear hb3 htb hz q1 q4 q5 q6 q7
        cases zb
        · have HF : Hid (ok4 b = false) := Lib.hid (by rw [HOK.out]; simp)
          go_wp2_with fail
          go_ret2
          exact ⟨fun c => absurd (c.symm.trans HF.out) (by decide), fun _ => ⟨3, by decide, rfl⟩, Rchg.of_below (F := fun k => k = P) HB4.out⟩
        · have HT : Hid (ok4 b = true) := Lib.hid (by rw [HOK.out, HST.out, HUN.out]; simp; omega)
          obtain ⟨W4, rfl⟩ : ∃ W4 : World, W4 = wc := ⟨_, rfl⟩
          have HB5 := Lib.hid (HB.out.below HB4.out)
          have hP4 : W4.heap[P]? = some (.cells (pkA noPk) 31 (0, 0)) := (HB4.out.block P (lt_of_block HP.out)).trans HP.out
          have HG4 : Hid (GM W4 P 31 (pkA (pk4 b)) [0, 1, 2, 3, 4, 5, 6, 7] W4.drew) := Lib.hid (GM.start hP4 rfl (fun i hi => by
            simp only [List.mem_cons, List.mem_nil_iff, or_false, not_or] at hi
            rcases i with _ | _ | _ | _ | _ | _ | _ | _ | _ | _ | _ | _ | _ | _ | _ | _ | _ | _ | _ | i <;> first | rfl | (exfalso; omega)))
          obtain ⟨y8, hy8⟩ : ∃ y, b.getD 8 0 = y := ⟨_, rfl⟩
          obtain ⟨y9, hy9⟩ : ∃ y, b.getD 9 0 = y := ⟨_, rfl⟩
          have sw8 : IntKind.i64.wrap (y8.toNat : Int) = (y8.toNat : Int) := IntWalk.i64_in _ (by have := UInt8.toNat_lt y8; omega)
          have sw9 : IntKind.i64.wrap (y9.toNat : Int) = (y9.toNat : Int) := IntWalk.i64_in _ (by have := UInt8.toNat_lt y9; omega)
          have HY8 := Lib.hid hy8
          have HY9 := Lib.hid hy9
          have T0 : Hid ((pkA (pk4 b))[0]? = some (.bool false)) := Lib.hid rfl
          have T1 : Hid ((pkA (pk4 b))[1]? = some (.int .u64 0)) := Lib.hid rfl
          have T2 : Hid ((pkA (pk4 b))[2]? = some (.int .u64 (takeN (subB b 12 16)))) := Lib.hid rfl
          have T3 : Hid ((pkA (pk4 b))[3]? = some (.bool false)) := Lib.hid rfl
          have T4 : Hid ((pkA (pk4 b))[4]? = some (.int .u64 0)) := Lib.hid rfl
          have T5 : Hid ((pkA (pk4 b))[5]? = some (.int .u64 (takeN (subB b 16 20)))) := Lib.hid rfl
          have T6 : Hid ((pkA (pk4 b))[6]? = some (.int .i64 y8.toNat)) := Lib.hid (by rw [← hy8]; rfl)
          have T7 : Hid ((pkA (pk4 b))[7]? = some (.int .i64 y9.toNat)) := Lib.hid (by rw [← hy9]; rfl)
          have d16 : (16 : Int) ≤ (cap : Int) := by omega
          have d20 : (20 : Int) ≤ (cap : Int) := by omega
          have d16n : 16 ≤ cap := by omega
          have m8 : (8 : Int) < (n : Int) := by omega
          have m9 : (9 : Int) < (n : Int) := by omega
          have nc12 : ¬ cap = 12 := by omega
          have nc16 : ¬ cap = 16 := by omega
          have nc20 : ¬ cap = 20 := by omega
          clear hy8 hy9 hP4
          go_upto_region 7 with (fail)
          go_cut [] from 50 to 75 (fun wc => wc.heap[P]? = some (.cells (pkA (pk4 b)) 31 (0, 0)) ∧ Rchg (fun k => k = P) W4 wc)
          case first =>
            -- @R7 BEGIN
            refine wp_region_drawn 29 (fun f' => ⟨#[.pointer (some ⟨P, 0, none⟩), .slice (some ⟨g, 0, none⟩) n cap, undef, undef, .slice none 0 0, .int .i64 0, .slice (some ⟨g1, 0, none⟩) 20 cap1, .slice (some ⟨g, 0, none⟩) n cap, .slice (some ⟨g, 0, none⟩) 20 cap, .slice (some ⟨g1, 0, none⟩) 20 cap1, .slice (some ⟨g1, 0, none⟩) 20 cap1, .slice (some ⟨g1, 0, none⟩) 20 cap1, .pointer (some ⟨g1, 10, none⟩), .pointer (some ⟨g1, 11, none⟩), .bool false, u15, u16, u17, u18, u19, u20, u21, .bool (!true), u23, u24, u25, u26, u27, u28, u29, u30, u31, u32, u33, u34, u35, u36, u37, u38, u39, u40, u41, u42, u43, u44, u45, u46, u47, u48, u49, f' 0, f' 1, f' 2, f' 3, f' 4, f' 5, f' 6, f' 7, f' 8, f' 9, f' 10, f' 11, f' 12, f' 13, f' 14, f' 15, f' 16, f' 17, f' 18, f' 19, f' 21, f' 22, f' 24, f' 25, f' 27, f' 28, undef, undef], []⟩) (VL [VIs (.pointer (some ⟨P, 0, none⟩)), VIs (.pointer (some ⟨P, 0, none⟩)), VIs (.pointer (some ⟨P, 0, none⟩)), VIs (.pointer (some ⟨P, 0, none⟩)), VIs (.slice (some ⟨g, 0, none⟩) n cap), VIs (.pointer (some ⟨g, 8, none⟩)), VIs (.int .u8 y8.toNat), VIs (.int .i64 y8.toNat), VIs (.slice (some ⟨g, 0, none⟩) n cap), VIs (.pointer (some ⟨g, 9, none⟩)), VIs (.int .u8 y9.toNat), VIs (.int .i64 y9.toNat), VIs (.slice (some ⟨g, 0, none⟩) n cap), VIs (.slice (some ⟨g, 12, none⟩) 4 (cap - 12)), VIs (.agg #[.bool false, .int .u64 0, .int .u64 (takeN (subB b 12 16))]), VIs (.slice (some ⟨g, 0, none⟩) n cap), VIs (.slice (some ⟨g, 16, none⟩) 4 (cap - 16)), VIs (.agg #[.bool false, .int .u64 0, .int .u64 (takeN (subB b 16 20))]), VIs (.pointer (some ⟨P, 0, none⟩)), VIs (.pointer (some ⟨P, 6, none⟩)), VM P (pkA (pk4 b)) [6], VIs (.pointer (some ⟨P, 0, none⟩)), VIs (.pointer (some ⟨P, 7, none⟩)), VM P (pkA (pk4 b)) [7], VIs (.pointer (some ⟨P, 0, none⟩)), VIs (.pointer (some ⟨P, 0, none⟩)), VM P (pkA (pk4 b)) [0, 1, 2], VIs (.pointer (some ⟨P, 0, none⟩)), VIs (.pointer (some ⟨P, 3, none⟩))]) (fun _ w' => GM W4 P 31 (pkA (pk4 b)) [0, 1, 2, 3, 4, 5, 6, 7] w') (GrM P (pkA (pk4 b))) (fun _ => undef) (show Tryz.prog.follows .mixedOrders = true from by kernel_rfl) (by kernel_rfl) ?_ ?_ ?_ (HG4.out)
            · exact fun i w w' v h hg => VL.stabG (Gr := GrM P (pkA (pk4 b))) (by
                intro q hq w w' v hv hg
                simp only [List.mem_cons, List.mem_nil_iff, or_false] at hq
                rcases hq with rfl | rfl | rfl | rfl | rfl | rfl | rfl | rfl | rfl | rfl | rfl | rfl | rfl | rfl | rfl | rfl | rfl | rfl | rfl | rfl | rfl | rfl | rfl | rfl | rfl | rfl | rfl | rfl | rfl <;> first | exact hv | (exact VM.stab hv hg)) i w w' v h hg
            · intro i o hi ho f' w' k hk hG hd
              have hbw := HB5.out.rc hG.choose_spec.2.2.2 hgP
              have q8 := hbw.get 8 (by omega)
              have q9 := hbw.get 9 (by omega)
              rw [HY8.out] at q8
              rw [HY9.out] at q9
              have c8 : w'.cell? ⟨g, 8, none⟩ = some (.int .u8 y8.toNat) := q8.1
              have c9 : w'.cell? ⟨g, 9, none⟩ = some (.int .u8 y9.toNat) := q9.1
              have gl : g < w'.heap.size := q8.2
              obtain ⟨⟨x0, k0⟩, g0'⟩ := hG.cell 0 (by show 0 < 19; omega)
              obtain ⟨⟨x1, k1⟩, g1'⟩ := hG.cell 1 (by show 1 < 19; omega)
              obtain ⟨⟨x2, k2⟩, g2'⟩ := hG.cell 2 (by show 2 < 19; omega)
              obtain ⟨⟨x3, k3⟩, g3'⟩ := hG.cell 3 (by show 3 < 19; omega)
              obtain ⟨⟨x4, k4⟩, g4'⟩ := hG.cell 4 (by show 4 < 19; omega)
              obtain ⟨⟨x5, k5⟩, g5'⟩ := hG.cell 5 (by show 5 < 19; omega)
              obtain ⟨⟨x6, k6⟩, g6'⟩ := hG.cell 6 (by show 6 < 19; omega)
              obtain ⟨⟨x7, k7⟩, g7'⟩ := hG.cell 7 (by show 7 < 19; omega)
              have HG := Lib.hid hG
              have HBW := Lib.hid hbw
              clear hG hbw q8 q9
              have hcase : i = 0 ∨ i = 1 ∨ i = 2 ∨ i = 3 ∨ i = 4 ∨ i = 5 ∨ i = 6 ∨ i = 7 ∨ i = 8 ∨ i = 9 ∨ i = 10 ∨ i = 11 ∨ i = 12 ∨ i = 13 ∨ i = 14 ∨ i = 15 ∨ i = 16 ∨ i = 17 ∨ i = 18 ∨ i = 19 ∨ i = 20 ∨ i = 21 ∨ i = 22 ∨ i = 23 ∨ i = 24 ∨ i = 25 ∨ i = 26 ∨ i = 27 ∨ i = 28 := by omega
              rcases hcase with rfl | rfl | rfl | rfl | rfl | rfl | rfl | rfl | rfl | rfl | rfl | rfl | rfl | rfl | rfl | rfl | rfl | rfl | rfl | rfl | rfl | rfl | rfl | rfl | rfl | rfl | rfl | rfl | rfl <;> (replace ho := Option.some.inj ho; subst ho)
              · unfold Oper.wp
                go_simp
                exact ⟨_, (by first | (simp [upd]; done) | (simp [upd]; omega)), rfl, HG.out, GrM.refl _ _ _⟩
              · unfold Oper.wp
                go_simp
                exact ⟨_, (by first | (simp [upd]; done) | (simp [upd]; omega)), rfl, HG.out, GrM.refl _ _ _⟩
              · unfold Oper.wp
                go_simp
                exact ⟨_, (by first | (simp [upd]; done) | (simp [upd]; omega)), rfl, HG.out, GrM.refl _ _ _⟩
              · unfold Oper.wp
                go_simp
                exact ⟨_, (by first | (simp [upd]; done) | (simp [upd]; omega)), rfl, HG.out, GrM.refl _ _ _⟩
              · unfold Oper.wp
                go_simp
                exact ⟨_, (by first | (simp [upd]; done) | (simp [upd]; omega)), rfl, HG.out, GrM.refl _ _ _⟩
              · have e4 : f' 4 = _ := hd ⟨4, .data⟩ (by simp) rfl
                unfold Oper.wp
                go_simp
                exact ⟨_, (by first | (simp [upd, e4]; done) | (simp [upd, e4]; omega)), rfl, HG.out, GrM.refl _ _ _⟩
              · have e5 : f' 5 = _ := hd ⟨5, .data⟩ (by simp) rfl
                unfold Oper.wp
                go_simp
                exact ⟨_, (by first | (simp [upd, e5]; done) | (simp [upd, e5]; omega)), rfl, HG.out, GrM.refl _ _ _⟩
              · have e6 : f' 6 = _ := hd ⟨6, .data⟩ (by simp) rfl
                unfold Oper.wp
                go_simp
                exact ⟨_, (by first | (simp [upd, e6]; done) | (simp [upd, e6]; omega)), rfl, HG.out, GrM.refl _ _ _⟩
              · unfold Oper.wp
                go_simp
                exact ⟨_, (by first | (simp [upd]; done) | (simp [upd]; omega)), rfl, HG.out, GrM.refl _ _ _⟩
              · have e8 : f' 8 = _ := hd ⟨8, .data⟩ (by simp) rfl
                unfold Oper.wp
                go_simp
                exact ⟨_, (by first | (simp [upd, e8]; done) | (simp [upd, e8]; omega)), rfl, HG.out, GrM.refl _ _ _⟩
              · have e9 : f' 9 = _ := hd ⟨9, .data⟩ (by simp) rfl
                unfold Oper.wp
                go_simp
                exact ⟨_, (by first | (simp [upd, e9]; done) | (simp [upd, e9]; omega)), rfl, HG.out, GrM.refl _ _ _⟩
              · have e10 : f' 10 = _ := hd ⟨10, .data⟩ (by simp) rfl
                unfold Oper.wp
                go_simp
                exact ⟨_, (by first | (simp [upd, e10]; done) | (simp [upd, e10]; omega)), rfl, HG.out, GrM.refl _ _ _⟩
              · unfold Oper.wp
                go_simp
                exact ⟨_, (by first | (simp [upd]; done) | (simp [upd]; omega)), rfl, HG.out, GrM.refl _ _ _⟩
              · have e12 : f' 12 = _ := hd ⟨12, .data⟩ (by simp) rfl
                unfold Oper.wp
                go_simp
                exact ⟨_, (by simp [upd, e12]), rfl, HG.out, GrM.refl _ _ _⟩
              · have e13 : f' 13 = _ := hd ⟨13, .data⟩ (by simp) rfl
                unfold Oper.wp
                go_simp
                refine (takeAddr4 g 0 (cap - 12) b 12 w' HBW.out (by omega)).mono ?_
                rintro e w9 ⟨rfl, hb9⟩
                exact ⟨_, (by simp [upd, e13]), rfl, (HG.out.bl hb9).1, (HG.out.bl hb9).2⟩
              · unfold Oper.wp
                go_simp
                exact ⟨_, (by first | (simp [upd]; done) | (simp [upd]; omega)), rfl, HG.out, GrM.refl _ _ _⟩
              · have e15 : f' 15 = _ := hd ⟨15, .data⟩ (by simp) rfl
                unfold Oper.wp
                go_simp
                exact ⟨_, (by simp [upd, e15]), rfl, HG.out, GrM.refl _ _ _⟩
              · have e16 : f' 16 = _ := hd ⟨16, .data⟩ (by simp) rfl
                unfold Oper.wp
                go_simp
                refine (takeAddr4 g 0 (cap - 16) b 16 w' HBW.out (by omega)).mono ?_
                rintro e w9 ⟨rfl, hb9⟩
                exact ⟨_, (by simp [upd, e16]), rfl, (HG.out.bl hb9).1, (HG.out.bl hb9).2⟩
              · have e0 : f' 0 = _ := hd ⟨0, .data⟩ (by simp) rfl
                unfold Oper.wp
                go_simp
                exact ⟨_, (by first | (simp [upd, e0]; done) | (simp [upd, e0]; omega)), rfl, HG.out, GrM.refl _ _ _⟩
              · have e18 : f' 18 = _ := hd ⟨18, .data⟩ (by simp) rfl
                unfold Oper.wp
                go_simp
                exact ⟨_, (by first | (simp [upd, e18]; done) | (simp [upd, e18]; omega)), rfl, HG.out, GrM.refl _ _ _⟩
              · have e19 : f' 19 = _ := hd ⟨19, .data⟩ (by simp) rfl
                have e7 : f' 7 = _ := hd ⟨7, .data⟩ (by simp) rfl
                unfold Oper.wp
                go_simp
                obtain ⟨G0, r0, z0⟩ := HG.out.st T6.out (by simp)
                exact ⟨undef, (by simp [upd, e19, e7]), VM.cons (v := undef) z0 T6.out VM.nil, G0, r0⟩
              · have e1 : f' 1 = _ := hd ⟨1, .data⟩ (by simp) rfl
                unfold Oper.wp
                go_simp
                exact ⟨_, (by first | (simp [upd, e1]; done) | (simp [upd, e1]; omega)), rfl, HG.out, GrM.refl _ _ _⟩
              · have e21 : f' 21 = _ := hd ⟨21, .data⟩ (by simp) rfl
                unfold Oper.wp
                go_simp
                exact ⟨_, (by first | (simp [upd, e21]; done) | (simp [upd, e21]; omega)), rfl, HG.out, GrM.refl _ _ _⟩
              · have e22 : f' 22 = _ := hd ⟨22, .data⟩ (by simp) rfl
                have e11 : f' 11 = _ := hd ⟨11, .data⟩ (by simp) rfl
                unfold Oper.wp
                go_simp
                obtain ⟨G0, r0, z0⟩ := HG.out.st T7.out (by simp)
                exact ⟨undef, (by simp [upd, e22, e11]), VM.cons (v := undef) z0 T7.out VM.nil, G0, r0⟩
              · have e2 : f' 2 = _ := hd ⟨2, .data⟩ (by simp) rfl
                unfold Oper.wp
                go_simp
                exact ⟨_, (by first | (simp [upd, e2]; done) | (simp [upd, e2]; omega)), rfl, HG.out, GrM.refl _ _ _⟩
              · have e24 : f' 24 = _ := hd ⟨24, .data⟩ (by simp) rfl
                unfold Oper.wp
                go_simp
                exact ⟨_, (by first | (simp [upd, e24]; done) | (simp [upd, e24]; omega)), rfl, HG.out, GrM.refl _ _ _⟩
              · have e25 : f' 25 = _ := hd ⟨25, .data⟩ (by simp) rfl
                have e14 : f' 14 = _ := hd ⟨14, .data⟩ (by simp) rfl
                unfold Oper.wp
                go_simp
                obtain ⟨G0, r0, z0⟩ := HG.out.st T0.out (by simp)
                obtain ⟨G1, r1, z1⟩ := G0.st T1.out (by simp)
                obtain ⟨G2, r2, z2⟩ := G1.st T2.out (by simp)
                exact ⟨undef, (by simp [upd, e25, e14]), VM.cons (v := undef) (r2 _ _ T0.out (r1 _ _ T0.out z0)) T0.out (VM.cons (r2 _ _ T1.out z1) T1.out (VM.cons z2 T2.out VM.nil)), G2, (r0.trans r1).trans r2⟩
              · have e3 : f' 3 = _ := hd ⟨3, .data⟩ (by simp) rfl
                unfold Oper.wp
                go_simp
                exact ⟨_, (by first | (simp [upd, e3]; done) | (simp [upd, e3]; omega)), rfl, HG.out, GrM.refl _ _ _⟩
              · have e27 : f' 27 = _ := hd ⟨27, .data⟩ (by simp) rfl
                unfold Oper.wp
                go_simp
                exact ⟨_, (by first | (simp [upd, e27]; done) | (simp [upd, e27]; omega)), rfl, HG.out, GrM.refl _ _ _⟩
            · intro o ho f' w' k hk hG hd
              have hbw := HB5.out.rc hG.choose_spec.2.2.2 hgP
              have q8 := hbw.get 8 (by omega)
              have q9 := hbw.get 9 (by omega)
              rw [HY8.out] at q8
              rw [HY9.out] at q9
              have c8 : w'.cell? ⟨g, 8, none⟩ = some (.int .u8 y8.toNat) := q8.1
              have c9 : w'.cell? ⟨g, 9, none⟩ = some (.int .u8 y9.toNat) := q9.1
              have gl : g < w'.heap.size := q8.2
              obtain ⟨⟨x0, k0⟩, g0'⟩ := hG.cell 0 (by show 0 < 19; omega)
              obtain ⟨⟨x1, k1⟩, g1'⟩ := hG.cell 1 (by show 1 < 19; omega)
              obtain ⟨⟨x2, k2⟩, g2'⟩ := hG.cell 2 (by show 2 < 19; omega)
              obtain ⟨⟨x3, k3⟩, g3'⟩ := hG.cell 3 (by show 3 < 19; omega)
              obtain ⟨⟨x4, k4⟩, g4'⟩ := hG.cell 4 (by show 4 < 19; omega)
              obtain ⟨⟨x5, k5⟩, g5'⟩ := hG.cell 5 (by show 5 < 19; omega)
              obtain ⟨⟨x6, k6⟩, g6'⟩ := hG.cell 6 (by show 6 < 19; omega)
              obtain ⟨⟨x7, k7⟩, g7'⟩ := hG.cell 7 (by show 7 < 19; omega)
              have HG := Lib.hid hG
              have HBW := Lib.hid hbw
              clear hG hbw q8 q9
              have e28 : f' 28 = _ := hd 28 (by omega)
              have e17 : f' 17 = _ := hd 17 (by omega)
              obtain ⟨G0, r0, z0⟩ := HG.out.st T3.out (by simp)
              obtain ⟨G1, r1, z1⟩ := G0.st T4.out (by simp)
              obtain ⟨G2, r2, z2⟩ := G1.st T5.out (by simp)
              have rr := (r0.trans r1).trans r2
              have v20 := VM.stab (show VM P (pkA (pk4 b)) [6] w' (f' 20) from hd 20 (by omega)) rr
              have v23 := VM.stab (show VM P (pkA (pk4 b)) [7] w' (f' 23) from hd 23 (by omega)) rr
              have v26 := VM.stab (show VM P (pkA (pk4 b)) [0, 1, 2] w' (f' 26) from hd 26 (by omega)) rr
              have v29 : VM P (pkA (pk4 b)) [3, 4, 5] _ undef := VM.cons (r2 _ _ T3.out (r1 _ _ T3.out z0)) T3.out (VM.cons (r2 _ _ T4.out z1) T4.out (VM.cons z2 T5.out VM.nil))
              have HF := Lib.hid (G2.fin (fun j hj v hv => by
                simp only [List.mem_cons, List.mem_nil_iff, or_false] at hj
                rcases hj with rfl | rfl | rfl | rfl | rfl | rfl | rfl | rfl
                · exact v26 0 (by simp) v hv
                · exact v26 1 (by simp) v hv
                · exact v26 2 (by simp) v hv
                · exact v29 3 (by simp) v hv
                · exact v29 4 (by simp) v hv
                · exact v29 5 (by simp) v hv
                · exact v20 6 (by simp) v hv
                · exact v23 7 (by simp) v hv) (fun j hj => by
                simp only [List.mem_cons, List.mem_nil_iff, or_false] at hj
                show j < 19
                omega))
              clear v20 v23 v26 v29 rr r0 r1 r2 z0 z1 z2 G0 G1 G2
              replace ho := Option.some.inj ho
              subst ho
              unfold Oper.wp
              go_simp
              go_step
              go_meet
              exact HF.out
            -- @R7 END
          case rest =>
            obtain ⟨hpb, hrc⟩ := hcut
            have HFN := Lib.hid (And.intro hpb ((Rchg.of_below (F := fun k => k = P) HB4.out).trans hrc (fun _ _ e => e)))
            have dn : (20 : Int) ≤ (n : Int) := by omega
            clear hpb hrc
            go_wp2_with fail
            go_ret2
            exact ⟨fun _ => ⟨rfl, HFN.out.1⟩, fun c => absurd (HT.out.symm.trans c) (by decide), HFN.out.2⟩
    · have e1 : ((uv : Int) != (n : Int)) = true := by simp; omega
      have HF : Hid (ok4 b = false) := Lib.hid (by rw [HOK.out]; simp; intro _ _ c; omega)
      clear hun
      go_cut [22] from 23 to 49 (fun v22 wc => v22 = .bool true ∧ Below W3.heap.size W3 wc)
      case first =>
        -- @R5b BEGIN
        refine wp_region_free 27 (fun f' => ⟨#[.pointer (some ⟨P, 0, none⟩), .slice (some ⟨g, 0, none⟩) n cap, undef, undef, .slice none 0 0, .int .i64 0, .slice (some ⟨g1, 0, none⟩) 20 cap1, .slice (some ⟨g, 0, none⟩) n cap, .slice (some ⟨g, 0, none⟩) 20 cap, .slice (some ⟨g1, 0, none⟩) 20 cap1, .slice (some ⟨g1, 0, none⟩) 20 cap1, .slice (some ⟨g1, 0, none⟩) 20 cap1, .pointer (some ⟨g1, 10, none⟩), .pointer (some ⟨g1, 11, none⟩), .bool false, u15, u16, u17, u18, u19, u20, u21, undef, f' 0, f' 1, f' 2, f' 3, f' 4, f' 5, f' 6, f' 7, f' 8, f' 9, f' 10, f' 11, f' 12, f' 13, f' 14, f' 15, f' 16, f' 17, f' 18, f' 19, f' 20, f' 21, f' 22, f' 23, f' 24, f' 25, f' 26, undef, undef, undef, undef, undef, undef, undef, undef, undef, undef, undef, undef, undef, undef, undef, undef, undef, undef, undef, undef, undef, undef, undef, undef, undef, undef, undef, undef], []⟩) (VL [VIs (.slice (some ⟨g, 0, none⟩) n cap), VIs (.slice (some ⟨g, 2, none⟩) 2 (cap - 2)), VIs (.int .u64 uv), VIs (.int .i64 uv), VIs (.slice (some ⟨g, 0, none⟩) n cap), VIs (.int .i64 n), VIs (.bool true), VIs (.bool true), (fun _ _ => True), (fun _ _ => True), (fun _ _ => True), (fun _ _ => True), (fun _ _ => True), (fun _ _ => True), (fun _ _ => True), (fun _ _ => True), (fun _ _ => True), (fun _ _ => True), (fun _ _ => True), (fun _ _ => True), (fun _ _ => True), (fun _ _ => True), (fun _ _ => True), (fun _ _ => True), (fun _ _ => True), (fun _ _ => True), VIs (.bool true)]) (fun _ w' => Below W3.heap.size W3 w') (fun w w' => w.grownBy w' none) (fun _ => undef) (10) (show Tryz.prog.follows .mixedOrders = true from by kernel_rfl) (by kernel_rfl) ?_ ?_ ?_ ((Below.refl _ _).drew)
        · exact fun i w w' v h hg => VL.stabG (Gr := fun w w' => w.grownBy w' none) (by
            intro q hq w w' v hv hg
            simp only [List.mem_cons, List.mem_nil_iff, or_false] at hq
            rcases hq with rfl | rfl | rfl | rfl | rfl | rfl | rfl | rfl | rfl | rfl | rfl | rfl | rfl | rfl | rfl | rfl | rfl | rfl | rfl | rfl | rfl | rfl | rfl | rfl | rfl | rfl | rfl <;> first | exact hv | (exact hv)) i w w' v h hg
        · intro i o hi ho f' w' k hk hG hd
          have HGB := Lib.hid (HB3.out.below hG)
          have HG := Lib.hid hG
          clear hG
          have hcase : i = 0 ∨ i = 1 ∨ i = 2 ∨ i = 3 ∨ i = 4 ∨ i = 5 ∨ i = 6 ∨ i = 7 ∨ i = 8 ∨ i = 9 ∨ i = 10 ∨ i = 11 ∨ i = 12 ∨ i = 13 ∨ i = 14 ∨ i = 15 ∨ i = 16 ∨ i = 17 ∨ i = 18 ∨ i = 19 ∨ i = 20 ∨ i = 21 ∨ i = 22 ∨ i = 23 ∨ i = 24 ∨ i = 25 ∨ i = 26 := by omega
          rcases hcase with rfl | rfl | rfl | rfl | rfl | rfl | rfl | rfl | rfl | rfl | rfl | rfl | rfl | rfl | rfl | rfl | rfl | rfl | rfl | rfl | rfl | rfl | rfl | rfl | rfl | rfl | rfl <;> (replace ho := Option.some.inj ho; subst ho)
          · refine OpStep.of rfl ?_
            unfold Oper.wp
            go_simp
            exact ⟨_, (by simp [upd]), rfl, HG.out, World.grownBy.refl _ _⟩
          · have e0 : f' 0 = _ := hd ⟨0, .data⟩ (by simp) rfl
            refine OpStep.of rfl ?_
            unfold Oper.wp
            go_simp
            exact ⟨_, (by first | (simp [upd, e0]; done) | (simp [upd, e0]; omega)), rfl, HG.out, World.grownBy.refl _ _⟩
          · have e1 : f' 1 = _ := hd ⟨1, .data⟩ (by simp) rfl
            refine OpStep.of rfl ?_
            unfold Oper.wp
            go_simp
            refine (take_sub g 0 (cap - 2) b 2 2 w' HGB.out (by omega) (by omega)).mono ?_
            rintro e w9 ⟨rfl, rfl⟩
            exact ⟨_, (by simp [upd, e1, HU.out]), rfl, HG.out, World.grownBy.refl _ _⟩
          · have e2 : f' 2 = _ := hd ⟨2, .data⟩ (by simp) rfl
            refine OpStep.of rfl ?_
            unfold Oper.wp
            go_simp
            exact ⟨_, (by simp [upd, e2]), rfl, HG.out, World.grownBy.refl _ _⟩
          · refine OpStep.of rfl ?_
            unfold Oper.wp
            go_simp
            exact ⟨_, (by simp [upd]), rfl, HG.out, World.grownBy.refl _ _⟩
          · have e4 : f' 4 = _ := hd ⟨4, .data⟩ (by simp) rfl
            refine OpStep.of rfl ?_
            unfold Oper.wp
            go_simp
            exact ⟨_, (by simp [upd, e4]), rfl, HG.out, World.grownBy.refl _ _⟩
          · have e3 : f' 3 = _ := hd ⟨3, .data⟩ (by simp) rfl
            have e5 : f' 5 = _ := hd ⟨5, .data⟩ (by simp) rfl
            refine OpStep.of rfl ?_
            unfold Oper.wp
            go_simp
            exact ⟨_, (by simp [upd, e3, e5]), rfl, HG.out, World.grownBy.refl _ _⟩
          · have e6 : f' 6 = _ := hd ⟨6, .data⟩ (by simp) rfl
            refine OpStep.of rfl ?_
            unfold Oper.wp
            go_simp
            exact ⟨_, (by simp [upd, e6]), rfl, HG.out, World.grownBy.refl _ _⟩
          · refine OpStep.not (by have e7 : f' 7 = _ := hd ⟨7, .guard⟩ (by simp) rfl; simp [Region.wanted, yielded, e7]) ?_
            exact ⟨undef, rfl, trivial, HG.out, World.grownBy.refl _ _⟩
          · refine OpStep.not (by have e7 : f' 7 = _ := hd ⟨7, .guard⟩ (by simp) rfl; simp [Region.wanted, yielded, e7]) ?_
            exact ⟨undef, rfl, trivial, HG.out, World.grownBy.refl _ _⟩
          · refine OpStep.not (by have e7 : f' 7 = _ := hd ⟨7, .guard⟩ (by simp) rfl; simp [Region.wanted, yielded, e7]) ?_
            exact ⟨undef, rfl, trivial, HG.out, World.grownBy.refl _ _⟩
          · refine OpStep.not (by have e7 : f' 7 = _ := hd ⟨7, .guard⟩ (by simp) rfl; simp [Region.wanted, yielded, e7]) ?_
            exact ⟨undef, rfl, trivial, HG.out, World.grownBy.refl _ _⟩
          · refine OpStep.not (by have e7 : f' 7 = _ := hd ⟨7, .guard⟩ (by simp) rfl; simp [Region.wanted, yielded, e7]) ?_
            exact ⟨undef, rfl, trivial, HG.out, World.grownBy.refl _ _⟩
          · refine OpStep.not (by have e7 : f' 7 = _ := hd ⟨7, .guard⟩ (by simp) rfl; simp [Region.wanted, yielded, e7]) ?_
            exact ⟨undef, rfl, trivial, HG.out, World.grownBy.refl _ _⟩
          · refine OpStep.not (by have e7 : f' 7 = _ := hd ⟨7, .guard⟩ (by simp) rfl; simp [Region.wanted, yielded, e7]) ?_
            exact ⟨undef, rfl, trivial, HG.out, World.grownBy.refl _ _⟩
          · refine OpStep.not (by have e7 : f' 7 = _ := hd ⟨7, .guard⟩ (by simp) rfl; simp [Region.wanted, yielded, e7]) ?_
            exact ⟨undef, rfl, trivial, HG.out, World.grownBy.refl _ _⟩
          · refine OpStep.not (by have e7 : f' 7 = _ := hd ⟨7, .guard⟩ (by simp) rfl; simp [Region.wanted, yielded, e7]) ?_
            exact ⟨undef, rfl, trivial, HG.out, World.grownBy.refl _ _⟩
          · refine OpStep.not (by have e7 : f' 7 = _ := hd ⟨7, .guard⟩ (by simp) rfl; simp [Region.wanted, yielded, e7]) ?_
            exact ⟨undef, rfl, trivial, HG.out, World.grownBy.refl _ _⟩
          · refine OpStep.not (by have e7 : f' 7 = _ := hd ⟨7, .guard⟩ (by simp) rfl; simp [Region.wanted, yielded, e7]) ?_
            exact ⟨undef, rfl, trivial, HG.out, World.grownBy.refl _ _⟩
          · refine OpStep.not (by have e7 : f' 7 = _ := hd ⟨7, .guard⟩ (by simp) rfl; simp [Region.wanted, yielded, e7]) ?_
            exact ⟨undef, rfl, trivial, HG.out, World.grownBy.refl _ _⟩
          · refine OpStep.not (by have e7 : f' 7 = _ := hd ⟨7, .guard⟩ (by simp) rfl; simp [Region.wanted, yielded, e7]) ?_
            exact ⟨undef, rfl, trivial, HG.out, World.grownBy.refl _ _⟩
          · refine OpStep.not (by have e7 : f' 7 = _ := hd ⟨7, .guard⟩ (by simp) rfl; simp [Region.wanted, yielded, e7]) ?_
            exact ⟨undef, rfl, trivial, HG.out, World.grownBy.refl _ _⟩
          · refine OpStep.not (by have e7 : f' 7 = _ := hd ⟨7, .guard⟩ (by simp) rfl; simp [Region.wanted, yielded, e7]) ?_
            exact ⟨undef, rfl, trivial, HG.out, World.grownBy.refl _ _⟩
          · refine OpStep.not (by have e7 : f' 7 = _ := hd ⟨7, .guard⟩ (by simp) rfl; simp [Region.wanted, yielded, e7]) ?_
            exact ⟨undef, rfl, trivial, HG.out, World.grownBy.refl _ _⟩
          · refine OpStep.not (by have e7 : f' 7 = _ := hd ⟨7, .guard⟩ (by simp) rfl; simp [Region.wanted, yielded, e7]) ?_
            exact ⟨undef, rfl, trivial, HG.out, World.grownBy.refl _ _⟩
          · refine OpStep.not (by have e7 : f' 7 = _ := hd ⟨7, .guard⟩ (by simp) rfl; simp [Region.wanted, yielded, e7]) ?_
            exact ⟨undef, rfl, trivial, HG.out, World.grownBy.refl _ _⟩
          · have e7 : f' 7 = _ := hd ⟨7, .data⟩ (by simp) rfl
            refine OpStep.of rfl ?_
            unfold Oper.wp
            go_simp
            exact ⟨_, (by simp [upd, e7]), rfl, HG.out, World.grownBy.refl _ _⟩
        · intro o ho f' w' k hk hG hd
          have HGB := Lib.hid (HB3.out.below hG)
          have HG := Lib.hid hG
          clear hG
          have e26 : f' 26 = _ := hd 26 (by omega)
          replace ho := Option.some.inj ho
          subst ho
          refine ⟨rfl, ?_⟩
          unfold Oper.wp
          go_simp
          go_step
          go_meet
          exact ⟨rfl, HG.out⟩
        -- @R5b END
      case rest =>
        obtain ⟨rfl, hb3⟩ := hcut
        have HB4 := Lib.hid (HBC.out.trans (hb3.mono HBC.out.size))
        clear hb3 htb
        go_wp2_with fail
        go_ret2
        exact ⟨fun c => absurd (c.symm.trans HF.out) (by decide), fun _ => ⟨3, by decide, rfl⟩, Rchg.of_below (F := fun k => k = P) HB4.out⟩
  · have e1 : ((sv : Int) != (tv : Int)) = true := by simp; omega
    have HF : Hid (ok4 b = false) := Lib.hid (by rw [HOK.out]; simp [hst])
    clear hst
    go_region_with (first
      | (go_at_call 31; refine hsum.mono ?_; rintro e w9 ⟨rfl, rfl⟩)
      | (go_at_call 23; refine hta.mono ?_; rintro e w9 ⟨rfl, rfl⟩))
    all_goals (
      clear hsum hta
      go_wp2_with fail
      go_ret2
      exact ⟨fun c => absurd (c.symm.trans HF.out) (by decide), fun _ => ⟨15, by decide, rfl⟩, Rchg.of_below (F := fun k => k = P) HB2.out.drew⟩)
end Go.Proofs.YtfakfhbcpldeoaaGreatDoor
