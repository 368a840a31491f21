/- MaskOf over SpA: firstOf, wide.addr, MaskOf as a function in closed form (m bits of an address are cleared); addr.CheckPrefix at any prefix. -/
import Derived.Test.YtajifionclpphaaGreatDoorSpB
import Derived.StillTailTactics
import Derived.IntWalk
namespace Go.Proofs.YtajifionclpphaaGreatDoor
open Go.RowKit Go.Hw
theorem refLength_any (six : Bool) (hi lo : Int) (w : World) : Calls Tryz.prog 124 #[.agg #[.bool six, .int .u64 hi, .int .u64 lo]] w fun e w' => e = .returned (.int .i64 (lenA six)) ∧ Below w.heap.size w w' := by
  have HB := Lib.hid ((Below.refl w.heap.size w).alloc (Nat.le_refl _) (.cells #[.bool six, .int .u64 hi, .int .u64 lo] 30))
  cases six
  · go_enter Tryz.func124, Tryz.ntmps124
    go_wp2_with fail
    go_ret
    exact ⟨rfl, HB.out⟩
  · go_enter Tryz.func124, Tryz.ntmps124
    go_wp2_with fail
    go_ret
    exact ⟨rfl, HB.out⟩
/-- The digits with the last k bits cleared. -/
def clrd (d : Nat → Int) (k i : Nat) : Int := clr (d i) (min 16 (k - 16 * i))
theorem clr_bit (D r i : Nat) : (D / 2 ^ r * 2 ^ r).testBit i = (decide (r ≤ i) && D.testBit i) := by
  rw [Nat.testBit_mul_two_pow, Nat.testBit_div_two_pow]
  by_cases h : r ≤ i
  · rw [show i - r + r = i from by omega]
  · simp [h]
theorem nat_andn {D r : Nat} (hD : D < 65536) (hr : r < 16) : (D / 2 ^ r * 2 ^ r) &&& (18446744073709551615 - 2 ^ r) = D / 2 ^ (r + 1) * 2 ^ (r + 1) := by
  have h64 : (2 : Nat) ^ r < 2 ^ 64 := Nat.pow_lt_pow_right (by omega) (by omega)
  apply Nat.eq_of_testBit_eq
  intro i
  rw [Nat.testBit_and, clr_bit, clr_bit, show 18446744073709551615 - 2 ^ r = 2 ^ 64 - (2 ^ r + 1) from by omega, Nat.testBit_two_pow_sub_succ h64, Nat.testBit_two_pow]
  by_cases hi : i < 64
  · by_cases h1 : r = i
    · subst h1
      simp
      omega
    · by_cases h2 : r ≤ i
      · simp [h1, h2, hi, show r + 1 ≤ i from by omega]
      · simp [h2, show ¬ r + 1 ≤ i from by omega]
  · have : D.testBit i = false := Nat.testBit_lt_two_pow (Nat.lt_of_lt_of_le hD (by
      have := Nat.pow_le_pow_right (show 0 < 2 by omega) (show 16 ≤ i by omega)
      simpa using this))
    simp [this]
theorem i64_andn {X Y : Nat} (hX : X < 9223372036854775808) (hY : Y < 9223372036854775808) : bits .andNot .i64 (X : Int) (Y : Int) = ((X &&& (18446744073709551615 - Y) : Nat) : Int) := by
  have hx : X &&& (18446744073709551615 - Y) ≤ X := Nat.and_le_left
  show IntKind.i64.wrap ((BitVec.ofInt 64 (X : Int) &&& ~~~BitVec.ofInt 64 (Y : Int)).toNat : Int) = _
  rw [BitVec.toNat_and, BitVec.toNat_not, ofInt_u64 X (by omega), ofInt_u64 Y (by omega)]
  have e : 2 ^ 64 - 1 - Y = 18446744073709551615 - Y := by omega
  rw [e]
  exact IntWalk.i64_in _ (by omega)
theorem clr_step {x : Int} {r : Nat} (h0 : 0 ≤ x) (h1 : x < 65536) (hr : r < 16) : bits .andNot .i64 (clr x r) (IntKind.i64.wrap (2 ^ r)) = clr x (r + 1) := by
  obtain ⟨D, rfl⟩ := Int.eq_ofNat_of_zero_le h0
  have h2 : (2 : Nat) ^ r ≤ 2 ^ 15 := Nat.pow_le_pow_right (by omega) (by omega)
  have h3 : (2 : Nat) ^ 15 = 32768 := by decide
  have e2 : IntKind.i64.wrap ((2 : Int) ^ r) = ((2 ^ r : Nat) : Int) := by
    have e3 : ((2 : Int) ^ r) = ((2 ^ r : Nat) : Int) := by simp
    rw [e3]
    generalize (2 ^ r : Nat) = P at *
    exact IntWalk.i64_in _ (by omega)
  have ec : ∀ m, clr (D : Int) m = ((D / 2 ^ m * 2 ^ m : Nat) : Int) := fun m => by unfold clr; simp
  rw [e2, ec, ec]
  have hle : D / 2 ^ r * 2 ^ r ≤ D := Nat.div_mul_le_self _ _
  rw [i64_andn (by omega) (by omega), nat_andn (by omega) hr]
theorem clrd_step {d : Nat → Int} {k j r : Nat} (hk : k = 16 * j + r) (hr : r < 16) : arr9 (fun i => if i = j then clr (d j) (r + 1) else clrd d k i) = arr9 (clrd d (k + 1)) := arr_ext fun i _ => by
  unfold clrd
  by_cases h : i = j
  · subst h
    rw [if_pos rfl, show min 16 (k + 1 - 16 * i) = r + 1 from by omega]
  · rw [if_neg h]
    congr 1
    omega
theorem clrd_zero (d : Nat → Int) : arr9 (clrd d 0) = arr9 d := arr_ext fun i _ => by
  unfold clrd clr
  rw [show min 16 (0 - 16 * i) = 0 from by omega]
  simp
def FoI (w : World) (B : Nat) (d : Nat → Int) (k : Nat) (wr : World) : Prop :=
  Below w.heap.size w wr ∧ wr.heap[w.heap.size + 1]? = some (.cells (arr9 fun _ => 0) 169 (0, 0)) ∧ wr.heap[B]? = some (.cells (arr9 (clrd d k)) 169 (0, 0))
set_option maxRecDepth 100000 in
set_option maxHeartbeats 1000000 in
theorem firstOf_any (six : Bool) (hi lo bits_ : Int) (w : World) (hh : 0 ≤ hi ∧ hi ≤ 18446744073709551615) (hl : 0 ≤ lo ∧ lo ≤ 18446744073709551615) (m : Nat) (hm : lenA six - bits_ = m) (hm128 : m ≤ 128) (hb0 : 0 ≤ bits_) :
    Calls Tryz.prog 104 #[.agg #[.bool six, .int .u64 hi, .int .u64 lo], .int .i64 bits_] w fun e w' => e = .returned (wideV (clrd (wd six hi lo) m)) ∧ Below w.heap.size w w' := by
  have HM := Lib.hid hm
  have hlen : lenA six ≤ 128 := by unfold lenA; split <;> omega
  have hln0 : 0 ≤ lenA six := by unfold lenA; split <;> omega
  have hb1 : bits_ ≤ lenA six := by omega
  clear hm
  have HH := Lib.hid hh
  have HL := Lib.hid hl
  clear hh hl
  go_enter Tryz.func104, Tryz.ntmps104
  go_wp2_with fail
  refine (of_any six hi lo _ HH.out HL.out).mono ?_
  rintro e W1 ⟨rfl, hb⟩
  have hw1 : w.heap.size + 2 ≤ W1.heap.size := by have := hb.size; simp at this; omega
  have hbox : W1.heap[w.heap.size]? = some (addrBox six hi lo) := (hb.block _ (by simp <;> omega)).trans ((heap_alloc_old (w.alloc (addrBox six hi lo)) (.cells (arr9 fun _ => 0) 169) (by simp)).trans (heap_alloc_new w _))
  have hres : W1.heap[w.heap.size + 1]? = some (.cells (arr9 fun _ => 0) 169 (0, 0)) := by
    have h1 := heap_alloc_new (w.alloc (addrBox six hi lo)) (.cells (arr9 fun _ => 0) 169)
    simp only [Re_size] at h1
    exact (hb.block _ (by simp)).trans h1
  have hB1 : Below w.heap.size w W1 := (((Below.refl _ _).alloc (Nat.le_refl _) _).alloc (by simp) _).trans (hb.mono (by simp <;> omega))
  have hbox2 : (W1.alloc (.cells (arr9 (wd six hi lo)) 169)).heap[w.heap.size]? = some (addrBox six hi lo) := (heap_alloc_old _ _ (by omega)).trans hbox
  obtain ⟨x0, x1, x2, -⟩ := res3 hbox2
  have HBX := Lib.hid hbox2
  have HR := Lib.hid hres
  have HB1 := Lib.hid hB1
  unfold arr9 at x0 x1 x2
  unfold wideV arr9
  clear hb hbox hres hB1 hbox2
  go_wp2_with fail
  have hb2 : Below w.heap.size w (W1.alloc (.cells (arr9 (wd six hi lo)) 169)) := HB1.out.alloc HB1.out.size _
  have HB2 := Lib.hid hb2
  clear hb2
  refine (refLength_any six hi lo _).mono ?_
  rintro e W3 ⟨rfl, hb3⟩
  have hr3 : W3.heap[w.heap.size + 1]? = some (.cells (arr9 fun _ => 0) 169 (0, 0)) := (hb3.block _ (by simp <;> omega)).trans ((heap_alloc_old _ _ (by omega)).trans HR.out)
  have hd3 : W3.heap[W1.heap.size]? = some (.cells (arr9 (wd six hi lo)) 169 (0, 0)) := (hb3.block _ (by simp)).trans (heap_alloc_new W1 _)
  have HB3 := Lib.hid (HB2.out.trans (hb3.mono HB2.out.size))
  have h0 : FoI w W1.heap.size (wd six hi lo) 0 W3 := ⟨HB3.out, hr3, by rw [clrd_zero]; exact hd3⟩
  have H0 := Lib.hid h0
  clear hb3 hr3 hd3 HB3 h0 HB1 HB2 HR HBX x0 x1 x2 HH HL
  go_wp2_with fail
  rw [HM.out]
  go_loopw [13] (fun i wr => ∃ k : Nat, k ≤ m ∧ i = .int .i64 k ∧ FoI w W1.heap.size (wd six hi lo) k wr) (fun i _ => m - (intOf i).toNat)
  case atStart => exact ⟨0, by omega, rfl, H0.out⟩
  case round =>
    obtain ⟨k, hk, rfl, hb, b1, b2⟩ := hrel
    by_cases hlt : k < m
    · obtain ⟨j, r, hkj, hr16⟩ : ∃ j r, k = 16 * j + r ∧ r < 16 := ⟨k / 16, k % 16, by omega, by omega⟩
      have e1 : (k : Int).tdiv 16 = (j : Int) := by rw [Int.tdiv_eq_ediv_of_nonneg (by omega)]; omega
      have e2 : (k : Int).tmod 16 = (r : Int) := by rw [Int.tmod_eq_emod_of_nonneg (by omega)]; omega
      have e3 : (k : Int) / 16 = (j : Int) := by omega
      have e4 : (k : Int) % 16 = (r : Int) := by omega
      have hj : j < 9 := by omega
      have s0 : IntKind.i64.wrap (j : Int) = (j : Int) := IntWalk.i64_in _ (by omega)
      have s1 : IntKind.i64.wrap (r : Int) = (r : Int) := IntWalk.i64_in _ (by omega)
      have hj' : (j : Int) < 9 := by omega
      obtain ⟨c, f⟩ := arr_get b2 (j := j) hj
      have HKJ := Lib.hid hkj
      have B1 := Lib.hid b1
      have B2 := Lib.hid b2
      have HB := Lib.hid hb
      generalize hx : clrd (wd six hi lo) k j = x at c
      have HX := Lib.hid hx
      clear hkj b1 b2 hb hx
      go_wp2_with fail
      go_still_tail 9, (by kernel_rfl)
      change wpList _ _ _ _ _ wr.drew
      have c' : wr.drew.cell? ⟨W1.heap.size, j, none⟩ = some (.int .i64 x) := c
      have f' : wr.drew.frozen? ⟨W1.heap.size, j, none⟩ = false := f
      have hs := (Re.refl (show wr.drew.heap[W1.heap.size]? = _ from B2.out)).set j (.int .i64 (clr (wd six hi lo j) (r + 1)))
      have hv : bits .andNot .i64 x (IntKind.i64.wrap (2 ^ r)) = clr (wd six hi lo j) (r + 1) := by
        rw [← HX.out]
        have := clr_step (wd_bd six hi lo j).1 (wd_bd six hi lo j).2 hr16
        unfold clrd
        rw [show min 16 (k - 16 * j) = r from by have := HKJ.out; omega]
        exact this
      rw [arr_set _ hj, clrd_step HKJ.out hr16] at hs
      have hO : FoI w W1.heap.size (wd six hi lo) (k + 1) (wr.drew.setCell ⟨W1.heap.size, j, none⟩ (.int .i64 (clr (wd six hi lo j) (r + 1)))) := ⟨hs.below HB.out.drew (by omega), (hs.oth _ (by omega)).trans B1.out, hs.blk⟩
      have HO := Lib.hid hO
      clear hO hs c f
      rw [hv]
      generalize wr.drew = wz at *
      go_wp2_with fail
      go_roundw
      case rel => exact ⟨k + 1, by omega, by go_num, HO.out⟩
      case measure => simp [intOf]; omega
    · have : k = m := by omega
      subst this
      have b1' : wr.heap[w.heap.size + 1]? = some (.cells #[.int .i64 0, .int .i64 0, .int .i64 0, .int .i64 0, .int .i64 0, .int .i64 0, .int .i64 0, .int .i64 0, .int .i64 0] 169 (0, 0)) := b1
      obtain ⟨⟨z0, z1, z2, z3, z4, z5, z6, z7, z8⟩, f0, f1, f2, f3, f4, f5, f6, f7, f8⟩ := res9w b1'
      obtain ⟨⟨d0, d1, d2, d3, d4, d5, d6, d7, d8⟩, -⟩ := res9w b2
      have B1 := Lib.hid b1'
      have HB := Lib.hid hb
      clear hb b1 b1' b2
      go_wp2_with fail
      clear z0 z1 z2 z3 z4 z5 z6 z7 z8 d0 d1 d2 d3 d4 d5 d6 d7 d8 f0 f1 f2 f3 f4 f5 f6 f7 f8
      generalize hW : World.setCell _ _ _ = W9
      have hr := re9w B1.out hW
      obtain ⟨⟨y0, y1, y2, y3, y4, y5, y6, y7, y8⟩, -⟩ := res9w hr.blk
      refine bodyPost_ret (v := wideV (clrd (wd six hi lo) k)) (by simp [results, Tryz.results104, go_sem, y0, y1, y2, y3, y4, y5, y6, y7, y8, wideV, arr9]) rfl ⟨rfl, hr.below HB.out (by omega)⟩
theorem u64_bits (op : BinOp) (x y : Int) : U64 (bits op .u64 x y) := by
  unfold bits U64
  rw [IntKind.wrap_u64]
  omega
theorem arr_gets {w : World} {B : Nat} {d : Nat → Int} {T : TypeId} (h : w.heap[B]? = some (.cells (arr9 d) T (0, 0))) : ∀ j, j < 9 → w.cell? ⟨B, j, none⟩ = some (.int .i64 (d j)) := fun _ hj => (arr_get h hj).1
/-- The lower and the upper half of four digits each. -/
def loF (d : Nat → Int) : Nat → Int
  | 0 => 0
  | k + 1 => bits .or .u64 (loF d k) (IntKind.u64.wrap (IntKind.u64.wrap (d k) * 2 ^ (16 * (k : Int)).toNat))
def hiF (d : Nat → Int) : Nat → Int
  | 0 => 0
  | k + 1 => bits .or .u64 (hiF d k) (IntKind.u64.wrap (IntKind.u64.wrap (d (4 + k)) * 2 ^ (16 * (k : Int)).toNat))
def AdI (w : World) (d : Nat → Int) (k : Nat) (wr : World) : Prop :=
  ∃ h l : Int, (h = hiF d k ∧ l = loF d k) ∧ U64 h ∧ U64 l ∧ Below w.heap.size w wr ∧ wr.heap[w.heap.size]? = some (.cells (arr9 d) 169 (0, 0)) ∧ wr.heap[w.heap.size + 1]? = some (addrBox false 0 0) ∧ wr.heap[w.heap.size + 1 + 1]? = some (addrBox false h l)
def AnyAddr (w : World) (d : Nat → Int) (e : Ending) (w' : World) : Prop := ∃ six hi lo, (six = decide (0 < d 8) ∧ hi = hiF d 4 ∧ lo = loF d 4) ∧ e = .returned (.agg #[.bool six, .int .u64 hi, .int .u64 lo]) ∧ U64 hi ∧ U64 lo ∧ Below w.heap.size w w'
set_option maxRecDepth 100000 in
set_option maxHeartbeats 1000000 in
theorem wideAddr_any (d : Nat → Int) (w : World) (hd : ∀ i, 0 ≤ d i ∧ d i < 65536) :
    Calls Tryz.prog 105 #[wideV d] w fun e w' => AnyAddr w d e w' := by
  have HD := Lib.hid hd
  clear hd
  unfold wideV
  go_enter Tryz.func105, Tryz.ntmps105
  unfold arr9
  go_wp2_with fail
  go_loopw [5] (fun i wr => ∃ k : Nat, k ≤ 4 ∧ i = .int .i64 k ∧ AdI w d k wr) (fun i _ => 4 - (intOf i).toNat)
  case atStart =>
    refine ⟨0, by omega, rfl, 0, 0, ⟨rfl, rfl⟩, by unfold U64; omega, by unfold U64; omega, ((((Below.refl _ _).alloc (Nat.le_refl _) _).alloc (by simp <;> omega) _).alloc (by simp <;> omega) _), ?_, ?_, ?_⟩
    · exact (heap_alloc_old _ _ (by simp <;> omega)).trans ((heap_alloc_old _ _ (by simp <;> omega)).trans (heap_alloc_new w _))
    · have := heap_alloc_new (w.alloc (.cells (arr9 d) 169)) (addrBox false 0 0)
      simp only [Re_size] at this
      exact (heap_alloc_old _ _ (by simp <;> omega)).trans this
    · have := heap_alloc_new ((w.alloc (.cells (arr9 d) 169)).alloc (addrBox false 0 0)) (addrBox false 0 0)
      simp only [Re_size] at this
      exact this
  case round =>
    obtain ⟨k, hk, rfl, h, l, heq, hh, hl, hb, b0, b1, b2⟩ := hrel
    have HEQ := Lib.hid heq
    clear heq
    by_cases hlt : k < 4
    · have HLS := Lib.hid (show loF d (k + 1) = bits .or .u64 (loF d k) (IntKind.u64.wrap (IntKind.u64.wrap (d k) * 2 ^ (16 * (k : Int)).toNat)) from rfl)
      have HHS := Lib.hid (show hiF d (k + 1) = bits .or .u64 (hiF d k) (IntKind.u64.wrap (IntKind.u64.wrap (d (4 + k)) * 2 ^ (16 * (k : Int)).toNat)) from rfl)
      rw [← HEQ.out.2] at HLS
      rw [← HEQ.out.1] at HHS
      have c0 := arr_gets b0 k (by omega)
      have c4 := arr_gets b0 (4 + k) (by omega)
      obtain ⟨x0, x1, x2, f0, f1, f2⟩ := res3 b2
      have s0 : IntKind.i64.wrap (16 * (k : Int)) = 16 * (k : Int) := IntWalk.i64_in _ (by omega)
      have s1 : IntKind.i64.wrap (4 + (k : Int)) = 4 + (k : Int) := IntWalk.i64_in _ (by omega)
      have s2 : IntKind.i64.wrap (k : Int) = (k : Int) := IntWalk.i64_in _ (by omega)
      have s3 : (4 + (k : Int)).toNat = 4 + k := by omega
      have s4 : (k : Int) < 9 := by omega
      have s5 : 4 + (k : Int) < 9 := by omega
      have s6 : 0 ≤ 16 * (k : Int) := by omega
      have s7 : 0 ≤ 4 + (k : Int) := by omega
      have HB := Lib.hid hb
      have B0 := Lib.hid b0
      have B1 := Lib.hid b1
      have B2 := Lib.hid b2
      have hd0 := HD.out k
      have hd4 := HD.out (4 + k)
      generalize d k = dk at c0 hd0 HLS
      generalize hd4e : d (4 + k) = d4 at c4 hd4 HHS
      have HD4 := Lib.hid hd4e
      clear hd4e
      clear hb b0 b1 b2
      go_wp2_with fail
      go_still_tail 11, (by kernel_rfl)
      change wpList _ _ _ _ _ wr.drew
      have hv := u64_bits .or l (IntKind.u64.wrap (IntKind.u64.wrap dk * 2 ^ (16 * (k : Int)).toNat))
      generalize bits .or .u64 l (IntKind.u64.wrap (IntKind.u64.wrap dk * 2 ^ (16 * (k : Int)).toNat)) = vl at *
      have x2' : wr.drew.cell? ⟨w.heap.size + 1 + 1, 2, none⟩ = some (.int .u64 l) := x2
      have f2' : wr.drew.frozen? ⟨w.heap.size + 1 + 1, 2, none⟩ = false := f2
      have hs := (Re.refl (show wr.drew.heap[w.heap.size + 1 + 1]? = some (addrBox false h l) from B2.out)).set 2 (.int .u64 vl)
      have B22 : Hid ((wr.drew.setCell ⟨w.heap.size + 1 + 1, 2, none⟩ (.int .u64 vl)).heap[w.heap.size + 1 + 1]? = some (addrBox false h vl)) := Lib.hid (by simpa [addrBox] using hs.blk)
      have HB2 := Lib.hid (hs.below HB.out.drew (by omega))
      have B02 := Lib.hid ((hs.oth w.heap.size (by omega)).trans (show wr.drew.heap[w.heap.size]? = _ from B0.out))
      have B12 := Lib.hid ((hs.oth (w.heap.size + 1) (by omega)).trans (show wr.drew.heap[w.heap.size + 1]? = _ from B1.out))
      clear c0 c4 x0 x1 x2 f0 f1 f2 hs HB B0 B1 B2 hd0
      generalize wr.drew = wz at *
      go_wp2_with fail
      clear x2' f2'
      generalize hW : World.setCell _ _ _ = W2 at B22 HB2 B02 B12 ⊢
      clear hW
      obtain ⟨x0, x1, x2, f0, f1, f2⟩ := res3 B22.out
      have c4 := arr_gets B02.out (4 + k) (by omega)
      rw [HD4.out] at c4
      go_still_tail 12, (by kernel_rfl)
      change wpList _ _ _ _ _ W2.drew
      have hv2 := u64_bits .or h (IntKind.u64.wrap (IntKind.u64.wrap d4 * 2 ^ (16 * (k : Int)).toNat))
      generalize bits .or .u64 h (IntKind.u64.wrap (IntKind.u64.wrap d4 * 2 ^ (16 * (k : Int)).toNat)) = vh at *
      have x1' : W2.drew.cell? ⟨w.heap.size + 1 + 1, 1, none⟩ = some (.int .u64 h) := x1
      have f1' : W2.drew.frozen? ⟨w.heap.size + 1 + 1, 1, none⟩ = false := f1
      have hs := (Re.refl (show W2.drew.heap[w.heap.size + 1 + 1]? = some (addrBox false h vl) from B22.out)).set 1 (.int .u64 vh)
      have hO : AdI w d (k + 1) (W2.drew.setCell ⟨w.heap.size + 1 + 1, 1, none⟩ (.int .u64 vh)) := ⟨vh, vl, ⟨HHS.out.symm, HLS.out.symm⟩, hv2, hv, hs.below HB2.out.drew (by omega), (hs.oth w.heap.size (by omega)).trans (show W2.drew.heap[w.heap.size]? = _ from B02.out), (hs.oth (w.heap.size + 1) (by omega)).trans (show W2.drew.heap[w.heap.size + 1]? = _ from B12.out), by simpa [addrBox] using hs.blk⟩
      have HO := Lib.hid hO
      clear c4 x0 x1 x2 f0 f1 f2 hs hO
      generalize W2.drew = wy at *
      go_wp2_with fail
      go_roundw
      case rel => exact ⟨k + 1, by omega, by go_num, HO.out⟩
      case measure => simp [intOf]; omega
    · have : k = 4 := by omega
      subst this
      have c8 := arr_gets b0 8 (by omega)
      obtain ⟨x0, x1, x2, f0, f1, f2⟩ := res3 b2
      obtain ⟨z0, z1, z2, g0, g1, g2⟩ := res3 b1
      have HB := Lib.hid hb
      have B1 := Lib.hid b1
      have B2 := Lib.hid b2
      generalize hd8 : d 8 = d8 at c8
      have HD8 := Lib.hid hd8
      clear hd8
      clear hb b0 b1 b2
      go_wp2_with fail
      clear c8 x0 x1 x2 f0 f1 f2 z0 z1 z2 g0 g1 g2
      generalize hbb : decide (0 < d8) = bb
      have hs := (Re.refl B2.out).set 0 (.bool bb)
      have hz := (hs.oth (w.heap.size + 1) (by omega)).trans B1.out
      generalize hW : World.setCell _ _ _ = W9
      have hr := re3 hz hW
      obtain ⟨y0, y1, y2, -⟩ := res3 hr.blk
      refine bodyPost_ret (v := .agg #[.bool bb, .int .u64 h, .int .u64 l]) (by simp [results, Tryz.results105, go_sem, y0, y1, y2]) rfl ⟨bb, h, l, ⟨by rw [HD8.out]; exact hbb.symm, HEQ.out.1, HEQ.out.2⟩, rfl, hh, hl, hr.below (hs.below HB.out (by omega)) (by omega)⟩
/-- What MaskOf hands back: m bits of an address are cleared. -/
def maskF (six : Bool) (hi lo : Int) (m : Nat) : Bool × Int × Int := (decide (0 < clrd (wd six hi lo) m 8), hiF (clrd (wd six hi lo) m) 4, loF (clrd (wd six hi lo) m) 4)
def MaskX (w : World) (six : Bool) (hi lo : Int) (m : Nat) (bits_ : Int) (e : Ending) (w' : World) : Prop := ∃ s h l, maskF six hi lo m = (s, h, l) ∧ e = .returned (.agg #[.bool s, .int .u64 h, .int .u64 l, .int .i64 bits_]) ∧ U64 h ∧ U64 l ∧ Below w.heap.size w w'
theorem clrd_bd {d : Nat → Int} (hd : ∀ i, 0 ≤ d i ∧ d i < 65536) (k : Nat) : ∀ i, 0 ≤ clrd d k i ∧ clrd d k i < 65536 := by
  intro i
  unfold clrd clr
  obtain ⟨h0, h1⟩ := hd i
  generalize d i = x at *
  generalize min 16 (k - 16 * i) = m
  have hp : (0 : Int) < 2 ^ m := Int.pow_pos (by decide)
  have h2 := Int.ediv_nonneg h0 (Int.le_of_lt hp)
  have h3 := Int.ediv_mul_le x (Int.ne_of_gt hp)
  exact ⟨Int.mul_nonneg h2 (Int.le_of_lt hp), by omega⟩
set_option maxRecDepth 100000 in
set_option maxHeartbeats 1000000 in
theorem maskOf_det (six : Bool) (hi lo bits_ : Int) (w : World) (hh : U64 hi) (hl : U64 lo) (m : Nat) (hm : lenA six - bits_ = m) (hm128 : m ≤ 128) (hb0 : 0 ≤ bits_) :
    Calls Tryz.prog 52 #[.agg #[.bool six, .int .u64 hi, .int .u64 lo], .int .i64 bits_] w fun e w' => MaskX w six hi lo m bits_ e w' := by
  have HM := Lib.hid hm
  clear hm
  go_enter Tryz.func52, Tryz.ntmps52
  go_wp2_with fail
  refine (firstOf_any six hi lo bits_ _ hh hl m HM.out hm128 hb0).mono ?_
  rintro e W1 ⟨rfl, hb⟩
  have hz1 : W1.heap[w.heap.size + 1]? = some (.cells #[.bool false, .int .u64 0, .int .u64 0, .int .i64 0] 48 (0, 0)) := by
    have h1 := heap_alloc_new (w.alloc (addrBox six hi lo)) (.cells #[.bool false, .int .u64 0, .int .u64 0, .int .i64 0] 48)
    simp only [Re_size] at h1
    exact (hb.block _ (by simp)).trans h1
  have hB1 : Below w.heap.size w W1 := (((Below.refl _ _).alloc (Nat.le_refl _) _).alloc (by simp <;> omega) _).trans (hb.mono (by simp <;> omega))
  have HZ1 := Lib.hid hz1
  have HB1 := Lib.hid hB1
  clear hb hz1 hB1
  go_wp2_with fail
  refine (wideAddr_any _ _ (clrd_bd (wd_bd six hi lo) m)).mono ?_
  rintro e W2 ⟨s2, h2, l2, ⟨hq1, hq2, hq3⟩, rfl, uh, ul, hb2⟩
  have HF : Hid (maskF six hi lo m = (s2, h2, l2)) := Lib.hid (by unfold maskF; rw [hq1, hq2, hq3])
  clear hq1 hq2 hq3
  have hz2 := (hb2.block _ (lt_of_block HZ1.out)).trans HZ1.out
  have HB2 := Lib.hid (HB1.out.trans (hb2.mono HB1.out.size))
  obtain ⟨⟨z0, z1, z2, z3⟩, f0, f1, f2, f3⟩ := res4 hz2
  have HZ2 := Lib.hid hz2
  clear hb2 hz2 HZ1 HB1
  go_wp2_with fail
  clear z0 z1 z2 z3 f0 f1 f2 f3
  generalize hW : World.setCell _ _ _ = W9
  have hr := re4 HZ2.out hW
  obtain ⟨⟨y0, y1, y2, y3⟩, -⟩ := res4 hr.blk
  refine bodyPost_ret (v := .agg #[.bool s2, .int .u64 h2, .int .u64 l2, .int .i64 bits_]) (by simp [results, Tryz.results52, go_sem, y0, y1, y2, y3]) rfl ⟨s2, h2, l2, HF.out, rfl, uh, ul, hr.below HB2.out (by omega)⟩
theorem num_dg {n : Int} (h : U64 n) : n = dg n 3 * 281474976710656 + dg n 2 * 4294967296 + dg n 1 * 65536 + dg n 0 := by
  unfold U64 at h
  unfold dg
  simp only [Nat.reduceMul, Int.reducePow, Nat.mul_zero, Int.pow_zero, Int.ediv_one]
  omega
/-- A digit of a number whose last bits are cleared. -/
theorem clr_dg {n : Int} (h : U64 n) (M i : Nat) : clr (dg n i) (min 16 (M - 16 * i)) = dg (clr n M) i := by
  obtain ⟨N, rfl⟩ := Int.eq_ofNat_of_zero_le h.1
  have e1 : dg (N : Int) i = ((N / 2 ^ (16 * i) % 65536 : Nat) : Int) := by unfold dg; simp
  have ec : ∀ (X m : Nat), clr (X : Int) m = ((X / 2 ^ m * 2 ^ m : Nat) : Int) := fun X m => by unfold clr; simp
  have e2 : dg ((N / 2 ^ M * 2 ^ M : Nat) : Int) i = ((N / 2 ^ M * 2 ^ M / 2 ^ (16 * i) % 65536 : Nat) : Int) := by unfold dg; simp
  rw [e1, ec, ec, e2]
  congr 1
  apply Nat.eq_of_testBit_eq
  intro j
  rw [clr_bit, show (65536 : Nat) = 2 ^ 16 from rfl, Nat.testBit_mod_two_pow, Nat.testBit_mod_two_pow, Nat.testBit_div_two_pow, Nat.testBit_div_two_pow, clr_bit]
  by_cases h1 : j < 16
  · by_cases h2 : min 16 (M - 16 * i) ≤ j
    · rw [decide_eq_true h2, decide_eq_true (show M ≤ j + 16 * i by omega)]
      simp
    · rw [decide_eq_false h2, decide_eq_false (show ¬ M ≤ j + 16 * i by omega)]
      simp
  · rw [decide_eq_false h1]
    simp
theorem clr_min {x : Int} {a b : Nat} (h : a = b) : clr x a = clr x b := by rw [h]
/-- The digits of a masked address. -/
theorem clrd_wd {s : Bool} {hi lo : Int} (uh : U64 hi) (ul : U64 lo) {m : Nat} (hm : m ≤ 128) {i : Nat} (hi9 : i < 9) : clrd (wd s hi lo) m i = wd s (clr hi (m - 64)) (clr lo (min 64 m)) i := by
  unfold clrd wd
  by_cases h1 : i < 4
  · rw [if_pos h1, if_pos h1, ← clr_dg ul]
    exact clr_min (by omega)
  · rw [if_neg h1, if_neg h1]
    by_cases h2 : i < 8
    · rw [if_pos h2, if_pos h2, ← clr_dg uh]
      exact clr_min (by omega)
    · rw [if_neg h2, if_neg h2]
      have : min 16 (m - 16 * i) = 0 := by omega
      rw [this]
      unfold clr
      simp
/-- One digit more of a number. -/
theorem or_digit (x d k : Nat) (hx : x < 2 ^ (16 * k)) (hd : d < 65536) (hk : k < 4) : bits .or .u64 (x : Int) (IntKind.u64.wrap (IntKind.u64.wrap (d : Int) * 2 ^ (16 * (k : Int)).toNat)) = ((x + d * 2 ^ (16 * k) : Nat) : Int) := by
  have hp : 2 ^ (16 * k) * 65536 ≤ 18446744073709551616 := by
    rcases k with _ | _ | _ | _ | k
    · decide
    · decide
    · decide
    · decide
    · omega
  have h1 : d * 2 ^ (16 * k) < 18446744073709551616 := by
    have : d * 2 ^ (16 * k) ≤ 65535 * 2 ^ (16 * k) := Nat.mul_le_mul_right _ (by omega)
    have h2 := Nat.two_pow_pos (16 * k)
    omega
  have h3 : 2 ^ (16 * k) ≤ 2 ^ 48 := Nat.pow_le_pow_right (by decide) (by omega)
  rw [IntWalk.u64_in (d : Int) (by omega), show (16 * (k : Int)).toNat = 16 * k by omega, show (d : Int) * 2 ^ (16 * k) = ((d * 2 ^ (16 * k) : Nat) : Int) by simp, IntWalk.u64_in _ (by omega), u64_or_nat _ _ (by omega) h1]
  congr 1
  rw [Nat.or_comm, Nat.mul_comm, ← Nat.two_pow_add_eq_or_of_lt hx d]
  omega
theorem four_digits {n : Int} (h : U64 n) : ∃ D : Nat → Nat, (∀ k, dg n k = (D k : Int)) ∧ (∀ k, D k < 65536) ∧ n = ((D 0 + D 1 * 65536 + D 2 * 4294967296 + D 3 * 281474976710656 : Nat) : Int) := by
  refine ⟨fun k => (dg n k).toNat, fun k => ?_, fun k => ?_, ?_⟩
  · have := dg_bd n k; show dg n k = ((dg n k).toNat : Int); omega
  · have := dg_bd n k; show (dg n k).toNat < 65536; omega
  · have h1 := num_dg h
    have h2 := dg_bd n 0; have h3 := dg_bd n 1; have h4 := dg_bd n 2; have h5 := dg_bd n 3
    show n = (((dg n 0).toNat + (dg n 1).toNat * 65536 + (dg n 2).toNat * 4294967296 + (dg n 3).toNat * 281474976710656 : Nat) : Int)
    omega
/-- Four digits laid together are the number. -/
theorem pack4 {n : Int} (h : U64 n) (f : Nat → Int) (hf : ∀ k, k < 4 → f k = dg n k) (F : Nat → Int) (h0 : F 0 = 0) (hs : ∀ k, F (k + 1) = bits .or .u64 (F k) (IntKind.u64.wrap (IntKind.u64.wrap (f k) * 2 ^ (16 * (k : Int)).toNat))) : F 4 = n := by
  obtain ⟨D, h1, h2, h3⟩ := four_digits h
  have e0 := h2 0; have e1 := h2 1; have e2 := h2 2; have e3 := h2 3
  have s1 : F 1 = ((D 0 : Nat) : Int) := by
    rw [hs 0, h0, hf 0 (by omega), h1]
    have := or_digit 0 (D 0) 0 (by decide) e0 (by omega)
    rw [show 0 + D 0 * 2 ^ (16 * 0) = D 0 by omega] at this
    exact this
  have s2 : F 2 = ((D 0 + D 1 * 65536 : Nat) : Int) := by
    rw [hs 1, s1, hf 1 (by omega), h1]
    exact or_digit (D 0) (D 1) 1 (by simpa using e0) e1 (by omega)
  have s3 : F 3 = ((D 0 + D 1 * 65536 + D 2 * 4294967296 : Nat) : Int) := by
    rw [hs 2, s2, hf 2 (by omega), h1]
    exact or_digit (D 0 + D 1 * 65536) (D 2) 2 (show _ < 4294967296 by omega) e2 (by omega)
  rw [hs 3, s3, hf 3 (by omega), h1, h3]
  exact or_digit (D 0 + D 1 * 65536 + D 2 * 4294967296) (D 3) 3 (show _ < 281474976710656 by omega) e3 (by omega)
theorem mask_closed {s : Bool} {hi lo : Int} (uh : U64 hi) (ul : U64 lo) {m : Nat} (hm : m ≤ 128) : maskF s hi lo m = (s, clr hi (m - 64), clr lo (min 64 m)) := by
  have e : ∀ i, i < 9 → clrd (wd s hi lo) m i = wd s (clr hi (m - 64)) (clr lo (min 64 m)) i := fun i hi9 => clrd_wd uh ul hm hi9
  have uh' := clr_u64 uh (m - 64)
  have ul' := clr_u64 ul (min 64 m)
  unfold maskF
  generalize clr hi (m - 64) = h' at *
  generalize clr lo (min 64 m) = l' at *
  have h1 : hiF (clrd (wd s hi lo) m) 4 = h' := pack4 uh' (fun k => clrd (wd s hi lo) m (4 + k)) (fun k hk => by
    show clrd (wd s hi lo) m (4 + k) = dg h' k
    rw [e (4 + k) (by omega)]
    unfold wd
    rw [if_neg (by omega), if_pos (by omega), Nat.add_sub_cancel_left]) _ rfl (fun k => rfl)
  have h2 : loF (clrd (wd s hi lo) m) 4 = l' := pack4 ul' (fun k => clrd (wd s hi lo) m k) (fun k hk => by
    show clrd (wd s hi lo) m k = dg l' k
    rw [e k (by omega)]
    unfold wd
    rw [if_pos hk]) _ rfl (fun k => rfl)
  have h3 : decide (0 < clrd (wd s hi lo) m 8) = s := by
    rw [e 8 (by omega)]
    cases s <;> rfl
  rw [h1, h2, h3]
end Go.Proofs.YtajifionclpphaaGreatDoor
