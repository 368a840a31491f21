/- Addresses as nine digits: laneref2.length, firstOf. -/
import Derived.Test.YtkbbmlkgaooaiaaGreatDoorWdA
import Derived.StillTailTactics
import Derived.IntWalk
namespace Go.Proofs.YtkbbmlkgaooaiaaGreatDoor
open Go.RowKit Go.Hw

def lenA (six : Bool) : Int := if six then 128 else 32
theorem refLength_any (six : Bool) (hi lo : Int) (w : World) : Calls Tryz.prog 54 #[.agg #[.bool six, .int .u64 hi, .int .u64 lo]] w fun e w' => e = .returned (.int .i64 (lenA six)) ∧ Below w.heap.size w w' := by
  have HB := Lib.hid ((Below.refl w.heap.size w).alloc (Nat.le_refl _) (.cells #[.bool six, .int .u64 hi, .int .u64 lo] 42))
  cases six
  · go_enter Tryz.func54, Tryz.ntmps54
    go_wp2_with fail
    go_ret
    exact ⟨rfl, HB.out⟩
  · go_enter Tryz.func54, Tryz.ntmps54
    go_wp2_with fail
    go_ret
    exact ⟨rfl, HB.out⟩
/-- The last m bits are cleared. -/
def clr (x : Int) (m : Nat) : Int := x / 2 ^ m * 2 ^ m
/-- The digits with the last k bits cleared. -/
def clrd (d : Nat → Int) (k i : Nat) : Int := clr (d i) (min 16 (k - 16 * i))

theorem clr_bit (D r i : Nat) : (D / 2 ^ r * 2 ^ r).testBit i = (decide (r ≤ i) && D.testBit i) := by
  rw [Nat.testBit_mul_two_pow, Nat.testBit_div_two_pow]
  by_cases h : r ≤ i
  · rw [show i - r + r = i from by omega]
  · simp [h]
theorem nat_andn {D r : Nat} (hD : D < 65536) (hr : r < 16) : (D / 2 ^ r * 2 ^ r) &&& (18446744073709551615 - 2 ^ r) = D / 2 ^ (r + 1) * 2 ^ (r + 1) := by
  have h64 : (2 : Nat) ^ r < 2 ^ 64 := Nat.pow_lt_pow_right (by omega) (by omega)
  apply Nat.eq_of_testBit_eq
  intro i
  rw [Nat.testBit_and, clr_bit, clr_bit, show 18446744073709551615 - 2 ^ r = 2 ^ 64 - (2 ^ r + 1) from by omega, Nat.testBit_two_pow_sub_succ h64, Nat.testBit_two_pow]
  by_cases hi : i < 64
  · by_cases h1 : r = i
    · subst h1
      simp
      omega
    · by_cases h2 : r ≤ i
      · simp [h1, h2, hi, show r + 1 ≤ i from by omega]
      · simp [h2, show ¬ r + 1 ≤ i from by omega]
  · have : D.testBit i = false := Nat.testBit_lt_two_pow (Nat.lt_of_lt_of_le hD (by
      have := Nat.pow_le_pow_right (show 0 < 2 by omega) (show 16 ≤ i by omega)
      simpa using this))
    simp [this]
theorem i64_andn {X Y : Nat} (hX : X < 9223372036854775808) (hY : Y < 9223372036854775808) : bits .andNot .i64 (X : Int) (Y : Int) = ((X &&& (18446744073709551615 - Y) : Nat) : Int) := by
  have hx : X &&& (18446744073709551615 - Y) ≤ X := Nat.and_le_left
  show IntKind.i64.wrap ((BitVec.ofInt 64 (X : Int) &&& ~~~BitVec.ofInt 64 (Y : Int)).toNat : Int) = _
  rw [BitVec.toNat_and, BitVec.toNat_not, ofInt_u64 X (by omega), ofInt_u64 Y (by omega)]
  have e : 2 ^ 64 - 1 - Y = 18446744073709551615 - Y := by omega
  rw [e]
  exact IntWalk.i64_in _ (by omega)
theorem clr_step {x : Int} {r : Nat} (h0 : 0 ≤ x) (h1 : x < 65536) (hr : r < 16) : bits .andNot .i64 (clr x r) (IntKind.i64.wrap (2 ^ r)) = clr x (r + 1) := by
  obtain ⟨D, rfl⟩ := Int.eq_ofNat_of_zero_le h0
  have h2 : (2 : Nat) ^ r ≤ 2 ^ 15 := Nat.pow_le_pow_right (by omega) (by omega)
  have h3 : (2 : Nat) ^ 15 = 32768 := by decide
  have e2 : IntKind.i64.wrap ((2 : Int) ^ r) = ((2 ^ r : Nat) : Int) := by
    have e3 : ((2 : Int) ^ r) = ((2 ^ r : Nat) : Int) := by simp
    rw [e3]
    generalize (2 ^ r : Nat) = P at *
    exact IntWalk.i64_in _ (by omega)
  have ec : ∀ m, clr (D : Int) m = ((D / 2 ^ m * 2 ^ m : Nat) : Int) := fun m => by unfold clr; simp
  rw [e2, ec, ec]
  have hle : D / 2 ^ r * 2 ^ r ≤ D := Nat.div_mul_le_self _ _
  rw [i64_andn (by omega) (by omega), nat_andn (by omega) hr]
theorem wd_bd (six : Bool) (hi lo : Int) (i : Nat) : 0 ≤ wd six hi lo i ∧ wd six hi lo i < 65536 := by
  unfold wd
  split
  · exact dg_bd _ _
  · split
    · exact dg_bd _ _
    · split <;> omega
theorem clrd_step {d : Nat → Int} {k j r : Nat} (hk : k = 16 * j + r) (hr : r < 16) : arr9 (fun i => if i = j then clr (d j) (r + 1) else clrd d k i) = arr9 (clrd d (k + 1)) := arr_ext fun i _ => by
  unfold clrd
  by_cases h : i = j
  · subst h
    rw [if_pos rfl, show min 16 (k + 1 - 16 * i) = r + 1 from by omega]
  · rw [if_neg h]
    congr 1
    omega
theorem clrd_zero (d : Nat → Int) : arr9 (clrd d 0) = arr9 d := arr_ext fun i _ => by
  unfold clrd clr
  rw [show min 16 (0 - 16 * i) = 0 from by omega]
  simp
def FoI (w : World) (B : Nat) (d : Nat → Int) (k : Nat) (wr : World) : Prop :=
  Below w.heap.size w wr ∧ wr.heap[w.heap.size + 1]? = some (.cells (arr9 fun _ => 0) 111 (0, 0)) ∧ wr.heap[B]? = some (.cells (arr9 (clrd d k)) 111 (0, 0))

set_option maxRecDepth 100000 in
set_option maxHeartbeats 1000000 in
theorem firstOf_any (six : Bool) (hi lo bits_ : Int) (w : World) (hh : 0 ≤ hi ∧ hi ≤ 18446744073709551615) (hl : 0 ≤ lo ∧ lo ≤ 18446744073709551615) (m : Nat) (hm : lenA six - bits_ = m) (hm128 : m ≤ 128) (hb0 : 0 ≤ bits_) :
    Calls Tryz.prog 55 #[.agg #[.bool six, .int .u64 hi, .int .u64 lo], .int .i64 bits_] w fun e w' => e = .returned (wideV (clrd (wd six hi lo) m)) ∧ Below w.heap.size w w' := by
  have HM := Lib.hid hm
  have hlen : lenA six ≤ 128 := by unfold lenA; split <;> omega
  have hln0 : 0 ≤ lenA six := by unfold lenA; split <;> omega
  have hb1 : bits_ ≤ lenA six := by omega
  clear hm
  have HH := Lib.hid hh
  have HL := Lib.hid hl
  clear hh hl
  go_enter Tryz.func55, Tryz.ntmps55
  go_wp2_with fail
  refine (of_any six hi lo _ HH.out HL.out).mono ?_
  rintro e W1 ⟨rfl, hb⟩
  have hw1 : w.heap.size + 2 ≤ W1.heap.size := by have := hb.size; simp at this; omega
  have hbox : W1.heap[w.heap.size]? = some (addrBox six hi lo) := (hb.block _ (by simp <;> omega)).trans ((heap_alloc_old (w.alloc (addrBox six hi lo)) (.cells (arr9 fun _ => 0) 111) (by simp)).trans (heap_alloc_new w _))
  have hres : W1.heap[w.heap.size + 1]? = some (.cells (arr9 fun _ => 0) 111 (0, 0)) := by
    have h1 := heap_alloc_new (w.alloc (addrBox six hi lo)) (.cells (arr9 fun _ => 0) 111)
    simp only [Re_size] at h1
    exact (hb.block _ (by simp)).trans h1
  have hB1 : Below w.heap.size w W1 := (((Below.refl _ _).alloc (Nat.le_refl _) _).alloc (by simp) _).trans (hb.mono (by simp <;> omega))
  have hbox2 : (W1.alloc (.cells (arr9 (wd six hi lo)) 111)).heap[w.heap.size]? = some (addrBox six hi lo) := (heap_alloc_old _ _ (by omega)).trans hbox
  obtain ⟨x0, x1, x2, -⟩ := res3 hbox2
  have HBX := Lib.hid hbox2
  have HR := Lib.hid hres
  have HB1 := Lib.hid hB1
  unfold arr9 at x0 x1 x2
  unfold wideV arr9
  clear hb hbox hres hB1 hbox2
  go_wp2_with fail
  have hb2 : Below w.heap.size w (W1.alloc (.cells (arr9 (wd six hi lo)) 111)) := HB1.out.alloc HB1.out.size _
  have HB2 := Lib.hid hb2
  clear hb2
  refine (refLength_any six hi lo _).mono ?_
  rintro e W3 ⟨rfl, hb3⟩
  have hr3 : W3.heap[w.heap.size + 1]? = some (.cells (arr9 fun _ => 0) 111 (0, 0)) := (hb3.block _ (by simp <;> omega)).trans ((heap_alloc_old _ _ (by omega)).trans HR.out)
  have hd3 : W3.heap[W1.heap.size]? = some (.cells (arr9 (wd six hi lo)) 111 (0, 0)) := (hb3.block _ (by simp)).trans (heap_alloc_new W1 _)
  have HB3 := Lib.hid (HB2.out.trans (hb3.mono HB2.out.size))
  have h0 : FoI w W1.heap.size (wd six hi lo) 0 W3 := ⟨HB3.out, hr3, by rw [clrd_zero]; exact hd3⟩
  have H0 := Lib.hid h0
  clear hb3 hr3 hd3 HB3 h0 HB1 HB2 HR HBX x0 x1 x2 HH HL
  go_wp2_with fail
  rw [HM.out]
  go_loopw [13] (fun i wr => ∃ k : Nat, k ≤ m ∧ i = .int .i64 k ∧ FoI w W1.heap.size (wd six hi lo) k wr) (fun i _ => m - (intOf i).toNat)
  case atStart => exact ⟨0, by omega, rfl, H0.out⟩
  case round =>
    obtain ⟨k, hk, rfl, hb, b1, b2⟩ := hrel
    by_cases hlt : k < m
    · obtain ⟨j, r, hkj, hr16⟩ : ∃ j r, k = 16 * j + r ∧ r < 16 := ⟨k / 16, k % 16, by omega, by omega⟩
      have e1 : (k : Int).tdiv 16 = (j : Int) := by rw [Int.tdiv_eq_ediv_of_nonneg (by omega)]; omega
      have e2 : (k : Int).tmod 16 = (r : Int) := by rw [Int.tmod_eq_emod_of_nonneg (by omega)]; omega
      have e3 : (k : Int) / 16 = (j : Int) := by omega
      have e4 : (k : Int) % 16 = (r : Int) := by omega
      have hj : j < 9 := by omega
      have s0 : IntKind.i64.wrap (j : Int) = (j : Int) := IntWalk.i64_in _ (by omega)
      have s1 : IntKind.i64.wrap (r : Int) = (r : Int) := IntWalk.i64_in _ (by omega)
      have hj' : (j : Int) < 9 := by omega
      obtain ⟨c, f⟩ := arr_get b2 (j := j) hj
      have HKJ := Lib.hid hkj
      have B1 := Lib.hid b1
      have B2 := Lib.hid b2
      have HB := Lib.hid hb
      generalize hx : clrd (wd six hi lo) k j = x at c
      have HX := Lib.hid hx
      clear hkj b1 b2 hb hx
      go_wp2_with fail
      go_still_tail 9, (by kernel_rfl)
      change wpList _ _ _ _ _ wr.drew
      have c' : wr.drew.cell? ⟨W1.heap.size, j, none⟩ = some (.int .i64 x) := c
      have f' : wr.drew.frozen? ⟨W1.heap.size, j, none⟩ = false := f
      have hs := (Re.refl (show wr.drew.heap[W1.heap.size]? = _ from B2.out)).set j (.int .i64 (clr (wd six hi lo j) (r + 1)))
      have hv : bits .andNot .i64 x (IntKind.i64.wrap (2 ^ r)) = clr (wd six hi lo j) (r + 1) := by
        rw [← HX.out]
        have := clr_step (wd_bd six hi lo j).1 (wd_bd six hi lo j).2 hr16
        unfold clrd
        rw [show min 16 (k - 16 * j) = r from by have := HKJ.out; omega]
        exact this
      rw [arr_set _ hj, clrd_step HKJ.out hr16] at hs
      have hO : FoI w W1.heap.size (wd six hi lo) (k + 1) (wr.drew.setCell ⟨W1.heap.size, j, none⟩ (.int .i64 (clr (wd six hi lo j) (r + 1)))) := ⟨hs.below HB.out.drew (by omega), (hs.oth _ (by omega)).trans B1.out, hs.blk⟩
      have HO := Lib.hid hO
      clear hO hs c f
      rw [hv]
      generalize wr.drew = wz at *
      go_wp2_with fail
      go_roundw
      case rel => exact ⟨k + 1, by omega, by go_num, HO.out⟩
      case measure => simp [intOf]; omega
    · have : k = m := by omega
      subst this
      have b1' : wr.heap[w.heap.size + 1]? = some (.cells #[.int .i64 0, .int .i64 0, .int .i64 0, .int .i64 0, .int .i64 0, .int .i64 0, .int .i64 0, .int .i64 0, .int .i64 0] 111 (0, 0)) := b1
      obtain ⟨⟨z0, z1, z2, z3, z4, z5, z6, z7, z8⟩, f0, f1, f2, f3, f4, f5, f6, f7, f8⟩ := res9 b1'
      obtain ⟨⟨d0, d1, d2, d3, d4, d5, d6, d7, d8⟩, -⟩ := res9 b2
      have B1 := Lib.hid b1'
      have HB := Lib.hid hb
      clear hb b1 b1' b2
      go_wp2_with fail
      clear z0 z1 z2 z3 z4 z5 z6 z7 z8 d0 d1 d2 d3 d4 d5 d6 d7 d8 f0 f1 f2 f3 f4 f5 f6 f7 f8
      generalize hW : World.setCell _ _ _ = W9
      have hr := re9 B1.out hW
      obtain ⟨⟨y0, y1, y2, y3, y4, y5, y6, y7, y8⟩, -⟩ := res9 hr.blk
      refine bodyPost_ret (v := wideV (clrd (wd six hi lo) k)) (by simp [results, Tryz.results55, go_sem, y0, y1, y2, y3, y4, y5, y6, y7, y8, wideV, arr9]) rfl ⟨rfl, hr.below HB.out (by omega)⟩
end Go.Proofs.YtkbbmlkgaooaiaaGreatDoor
