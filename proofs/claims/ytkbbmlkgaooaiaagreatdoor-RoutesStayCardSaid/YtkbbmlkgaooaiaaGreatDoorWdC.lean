/- Addresses as nine digits: wide.addr, MaskOf, as functions: what comes out is an address. -/
import Derived.Test.YtkbbmlkgaooaiaaGreatDoorWdB
import Derived.StillTailTactics
namespace Go.Proofs.YtkbbmlkgaooaiaaGreatDoor
open Go.RowKit Go.Hw

def U64 (x : Int) : Prop := 0 ≤ x ∧ x ≤ 18446744073709551615
theorem u64_bits (op : BinOp) (x y : Int) : U64 (bits op .u64 x y) := by
  unfold bits U64
  rw [IntKind.wrap_u64]
  omega
theorem arr_gets {w : World} {B : Nat} {d : Nat → Int} {T : TypeId} (h : w.heap[B]? = some (.cells (arr9 d) T (0, 0))) : ∀ j, j < 9 → w.cell? ⟨B, j, none⟩ = some (.int .i64 (d j)) := fun _ hj => (arr_get h hj).1
/-- The lower and the upper half of four digits each. -/
def loF (d : Nat → Int) : Nat → Int
  | 0 => 0
  | k + 1 => bits .or .u64 (loF d k) (IntKind.u64.wrap (IntKind.u64.wrap (d k) * 2 ^ (16 * (k : Int)).toNat))
def hiF (d : Nat → Int) : Nat → Int
  | 0 => 0
  | k + 1 => bits .or .u64 (hiF d k) (IntKind.u64.wrap (IntKind.u64.wrap (d (4 + k)) * 2 ^ (16 * (k : Int)).toNat))
def AdI (w : World) (d : Nat → Int) (k : Nat) (wr : World) : Prop :=
  ∃ h l : Int, (h = hiF d k ∧ l = loF d k) ∧ U64 h ∧ U64 l ∧ Below w.heap.size w wr ∧ wr.heap[w.heap.size]? = some (.cells (arr9 d) 111 (0, 0)) ∧ wr.heap[w.heap.size + 1]? = some (addrBox false 0 0) ∧ wr.heap[w.heap.size + 1 + 1]? = some (addrBox false h l)
def AnyAddr (w : World) (d : Nat → Int) (e : Ending) (w' : World) : Prop := ∃ six hi lo, (six = decide (0 < d 8) ∧ hi = hiF d 4 ∧ lo = loF d 4) ∧ e = .returned (.agg #[.bool six, .int .u64 hi, .int .u64 lo]) ∧ U64 hi ∧ U64 lo ∧ Below w.heap.size w w'

set_option maxRecDepth 100000 in
set_option maxHeartbeats 1000000 in
theorem wideAddr_any (d : Nat → Int) (w : World) (hd : ∀ i, 0 ≤ d i ∧ d i < 65536) :
    Calls Tryz.prog 105 #[wideV d] w fun e w' => AnyAddr w d e w' := by
  have HD := Lib.hid hd
  clear hd
  unfold wideV
  go_enter Tryz.func105, Tryz.ntmps105
  unfold arr9
  go_wp2_with fail
  go_loopw [5] (fun i wr => ∃ k : Nat, k ≤ 4 ∧ i = .int .i64 k ∧ AdI w d k wr) (fun i _ => 4 - (intOf i).toNat)
  case atStart =>
    refine ⟨0, by omega, rfl, 0, 0, ⟨rfl, rfl⟩, by unfold U64; omega, by unfold U64; omega, ((((Below.refl _ _).alloc (Nat.le_refl _) _).alloc (by simp <;> omega) _).alloc (by simp <;> omega) _), ?_, ?_, ?_⟩
    · exact (heap_alloc_old _ _ (by simp <;> omega)).trans ((heap_alloc_old _ _ (by simp <;> omega)).trans (heap_alloc_new w _))
    · have := heap_alloc_new (w.alloc (.cells (arr9 d) 111)) (addrBox false 0 0)
      simp only [Re_size] at this
      exact (heap_alloc_old _ _ (by simp <;> omega)).trans this
    · have := heap_alloc_new ((w.alloc (.cells (arr9 d) 111)).alloc (addrBox false 0 0)) (addrBox false 0 0)
      simp only [Re_size] at this
      exact this
  case round =>
    obtain ⟨k, hk, rfl, h, l, heq, hh, hl, hb, b0, b1, b2⟩ := hrel
    have HEQ := Lib.hid heq
    clear heq
    by_cases hlt : k < 4
    · have HLS := Lib.hid (show loF d (k + 1) = bits .or .u64 (loF d k) (IntKind.u64.wrap (IntKind.u64.wrap (d k) * 2 ^ (16 * (k : Int)).toNat)) from rfl)
      have HHS := Lib.hid (show hiF d (k + 1) = bits .or .u64 (hiF d k) (IntKind.u64.wrap (IntKind.u64.wrap (d (4 + k)) * 2 ^ (16 * (k : Int)).toNat)) from rfl)
      rw [← HEQ.out.2] at HLS
      rw [← HEQ.out.1] at HHS
      have c0 := arr_gets b0 k (by omega)
      have c4 := arr_gets b0 (4 + k) (by omega)
      obtain ⟨x0, x1, x2, f0, f1, f2⟩ := res3 b2
      have s0 : IntKind.i64.wrap (16 * (k : Int)) = 16 * (k : Int) := IntWalk.i64_in _ (by omega)
      have s1 : IntKind.i64.wrap (4 + (k : Int)) = 4 + (k : Int) := IntWalk.i64_in _ (by omega)
      have s2 : IntKind.i64.wrap (k : Int) = (k : Int) := IntWalk.i64_in _ (by omega)
      have s3 : (4 + (k : Int)).toNat = 4 + k := by omega
      have s4 : (k : Int) < 9 := by omega
      have s5 : 4 + (k : Int) < 9 := by omega
      have s6 : 0 ≤ 16 * (k : Int) := by omega
      have s7 : 0 ≤ 4 + (k : Int) := by omega
      have HB := Lib.hid hb
      have B0 := Lib.hid b0
      have B1 := Lib.hid b1
      have B2 := Lib.hid b2
      have hd0 := HD.out k
      have hd4 := HD.out (4 + k)
      generalize d k = dk at c0 hd0 HLS
      generalize hd4e : d (4 + k) = d4 at c4 hd4 HHS
      have HD4 := Lib.hid hd4e
      clear hd4e
      clear hb b0 b1 b2
      go_wp2_with fail
      go_still_tail 11, (by kernel_rfl)
      change wpList _ _ _ _ _ wr.drew
      have hv := u64_bits .or l (IntKind.u64.wrap (IntKind.u64.wrap dk * 2 ^ (16 * (k : Int)).toNat))
      generalize bits .or .u64 l (IntKind.u64.wrap (IntKind.u64.wrap dk * 2 ^ (16 * (k : Int)).toNat)) = vl at *
      have x2' : wr.drew.cell? ⟨w.heap.size + 1 + 1, 2, none⟩ = some (.int .u64 l) := x2
      have f2' : wr.drew.frozen? ⟨w.heap.size + 1 + 1, 2, none⟩ = false := f2
      have hs := (Re.refl (show wr.drew.heap[w.heap.size + 1 + 1]? = some (addrBox false h l) from B2.out)).set 2 (.int .u64 vl)
      have B22 : Hid ((wr.drew.setCell ⟨w.heap.size + 1 + 1, 2, none⟩ (.int .u64 vl)).heap[w.heap.size + 1 + 1]? = some (addrBox false h vl)) := Lib.hid (by simpa [addrBox] using hs.blk)
      have HB2 := Lib.hid (hs.below HB.out.drew (by omega))
      have B02 := Lib.hid ((hs.oth w.heap.size (by omega)).trans (show wr.drew.heap[w.heap.size]? = _ from B0.out))
      have B12 := Lib.hid ((hs.oth (w.heap.size + 1) (by omega)).trans (show wr.drew.heap[w.heap.size + 1]? = _ from B1.out))
      clear c0 c4 x0 x1 x2 f0 f1 f2 hs HB B0 B1 B2 hd0
      generalize wr.drew = wz at *
      go_wp2_with fail
      clear x2' f2'
      generalize hW : World.setCell _ _ _ = W2 at B22 HB2 B02 B12 ⊢
      clear hW
      obtain ⟨x0, x1, x2, f0, f1, f2⟩ := res3 B22.out
      have c4 := arr_gets B02.out (4 + k) (by omega)
      rw [HD4.out] at c4
      go_still_tail 12, (by kernel_rfl)
      change wpList _ _ _ _ _ W2.drew
      have hv2 := u64_bits .or h (IntKind.u64.wrap (IntKind.u64.wrap d4 * 2 ^ (16 * (k : Int)).toNat))
      generalize bits .or .u64 h (IntKind.u64.wrap (IntKind.u64.wrap d4 * 2 ^ (16 * (k : Int)).toNat)) = vh at *
      have x1' : W2.drew.cell? ⟨w.heap.size + 1 + 1, 1, none⟩ = some (.int .u64 h) := x1
      have f1' : W2.drew.frozen? ⟨w.heap.size + 1 + 1, 1, none⟩ = false := f1
      have hs := (Re.refl (show W2.drew.heap[w.heap.size + 1 + 1]? = some (addrBox false h vl) from B22.out)).set 1 (.int .u64 vh)
      have hO : AdI w d (k + 1) (W2.drew.setCell ⟨w.heap.size + 1 + 1, 1, none⟩ (.int .u64 vh)) := ⟨vh, vl, ⟨HHS.out.symm, HLS.out.symm⟩, hv2, hv, hs.below HB2.out.drew (by omega), (hs.oth w.heap.size (by omega)).trans (show W2.drew.heap[w.heap.size]? = _ from B02.out), (hs.oth (w.heap.size + 1) (by omega)).trans (show W2.drew.heap[w.heap.size + 1]? = _ from B12.out), by simpa [addrBox] using hs.blk⟩
      have HO := Lib.hid hO
      clear c4 x0 x1 x2 f0 f1 f2 hs hO
      generalize W2.drew = wy at *
      go_wp2_with fail
      go_roundw
      case rel => exact ⟨k + 1, by omega, by go_num, HO.out⟩
      case measure => simp [intOf]; omega
    · have : k = 4 := by omega
      subst this
      have c8 := arr_gets b0 8 (by omega)
      obtain ⟨x0, x1, x2, f0, f1, f2⟩ := res3 b2
      obtain ⟨z0, z1, z2, g0, g1, g2⟩ := res3 b1
      have HB := Lib.hid hb
      have B1 := Lib.hid b1
      have B2 := Lib.hid b2
      generalize hd8 : d 8 = d8 at c8
      have HD8 := Lib.hid hd8
      clear hd8
      clear hb b0 b1 b2
      go_wp2_with fail
      clear c8 x0 x1 x2 f0 f1 f2 z0 z1 z2 g0 g1 g2
      generalize hbb : decide (0 < d8) = bb
      have hs := (Re.refl B2.out).set 0 (.bool bb)
      have hz := (hs.oth (w.heap.size + 1) (by omega)).trans B1.out
      generalize hW : World.setCell _ _ _ = W9
      have hr := re3 hz hW
      obtain ⟨y0, y1, y2, -⟩ := res3 hr.blk
      refine bodyPost_ret (v := .agg #[.bool bb, .int .u64 h, .int .u64 l]) (by simp [results, Tryz.results105, go_sem, y0, y1, y2]) rfl ⟨bb, h, l, ⟨by rw [HD8.out]; exact hbb.symm, HEQ.out.1, HEQ.out.2⟩, rfl, hh, hl, hr.below (hs.below HB.out (by omega)) (by omega)⟩

/-- What MaskOf hands back: m bits of an address are cleared. -/
def maskF (six : Bool) (hi lo : Int) (m : Nat) : Bool × Int × Int := (decide (0 < clrd (wd six hi lo) m 8), hiF (clrd (wd six hi lo) m) 4, loF (clrd (wd six hi lo) m) 4)
def MaskX (w : World) (six : Bool) (hi lo : Int) (m : Nat) (bits_ : Int) (e : Ending) (w' : World) : Prop := ∃ s h l, maskF six hi lo m = (s, h, l) ∧ e = .returned (.agg #[.bool s, .int .u64 h, .int .u64 l, .int .i64 bits_]) ∧ U64 h ∧ U64 l ∧ Below w.heap.size w w'
def AnyPf (w : World) (bits_ : Int) (e : Ending) (w' : World) : Prop := ∃ six hi lo, e = .returned (.agg #[.bool six, .int .u64 hi, .int .u64 lo, .int .i64 bits_]) ∧ U64 hi ∧ U64 lo ∧ Below w.heap.size w w'
theorem clrd_bd {d : Nat → Int} (hd : ∀ i, 0 ≤ d i ∧ d i < 65536) (k : Nat) : ∀ i, 0 ≤ clrd d k i ∧ clrd d k i < 65536 := by
  intro i
  unfold clrd clr
  obtain ⟨h0, h1⟩ := hd i
  generalize d i = x at *
  generalize min 16 (k - 16 * i) = m
  have hp : (0 : Int) < 2 ^ m := Int.pow_pos (by decide)
  have h2 := Int.ediv_nonneg h0 (Int.le_of_lt hp)
  have h3 := Int.ediv_mul_le x (Int.ne_of_gt hp)
  exact ⟨Int.mul_nonneg h2 (Int.le_of_lt hp), by omega⟩
set_option maxRecDepth 100000 in
set_option maxHeartbeats 1000000 in
theorem maskOf_det (six : Bool) (hi lo bits_ : Int) (w : World) (hh : U64 hi) (hl : U64 lo) (m : Nat) (hm : lenA six - bits_ = m) (hm128 : m ≤ 128) (hb0 : 0 ≤ bits_) :
    Calls Tryz.prog 82 #[.agg #[.bool six, .int .u64 hi, .int .u64 lo], .int .i64 bits_] w fun e w' => MaskX w six hi lo m bits_ e w' := by
  have HM := Lib.hid hm
  clear hm
  go_enter Tryz.func82, Tryz.ntmps82
  go_wp2_with fail
  refine (firstOf_any six hi lo bits_ _ hh hl m HM.out hm128 hb0).mono ?_
  rintro e W1 ⟨rfl, hb⟩
  have hz1 : W1.heap[w.heap.size + 1]? = some (.cells #[.bool false, .int .u64 0, .int .u64 0, .int .i64 0] 44 (0, 0)) := by
    have h1 := heap_alloc_new (w.alloc (addrBox six hi lo)) (.cells #[.bool false, .int .u64 0, .int .u64 0, .int .i64 0] 44)
    simp only [Re_size] at h1
    exact (hb.block _ (by simp)).trans h1
  have hB1 : Below w.heap.size w W1 := (((Below.refl _ _).alloc (Nat.le_refl _) _).alloc (by simp <;> omega) _).trans (hb.mono (by simp <;> omega))
  have HZ1 := Lib.hid hz1
  have HB1 := Lib.hid hB1
  clear hb hz1 hB1
  go_wp2_with fail
  refine (wideAddr_any _ _ (clrd_bd (wd_bd six hi lo) m)).mono ?_
  rintro e W2 ⟨s2, h2, l2, ⟨hq1, hq2, hq3⟩, rfl, uh, ul, hb2⟩
  have HF : Hid (maskF six hi lo m = (s2, h2, l2)) := Lib.hid (by unfold maskF; rw [hq1, hq2, hq3])
  clear hq1 hq2 hq3
  have hz2 := (hb2.block _ (lt_of_block HZ1.out)).trans HZ1.out
  have HB2 := Lib.hid (HB1.out.trans (hb2.mono HB1.out.size))
  obtain ⟨⟨z0, z1, z2, z3⟩, f0, f1, f2, f3⟩ := res4 hz2
  have HZ2 := Lib.hid hz2
  clear hb2 hz2 HZ1 HB1
  go_wp2_with fail
  clear z0 z1 z2 z3 f0 f1 f2 f3
  generalize hW : World.setCell _ _ _ = W9
  have hr := re4 HZ2.out hW
  obtain ⟨⟨y0, y1, y2, y3⟩, -⟩ := res4 hr.blk
  refine bodyPost_ret (v := .agg #[.bool s2, .int .u64 h2, .int .u64 l2, .int .i64 bits_]) (by simp [results, Tryz.results82, go_sem, y0, y1, y2, y3]) rfl ⟨s2, h2, l2, HF.out, rfl, uh, ul, hr.below HB2.out (by omega)⟩
theorem maskOf_any (six : Bool) (hi lo bits_ : Int) (w : World) (hh : U64 hi) (hl : U64 lo) (m : Nat) (hm : lenA six - bits_ = m) (hm128 : m ≤ 128) (hb0 : 0 ≤ bits_) :
    Calls Tryz.prog 82 #[.agg #[.bool six, .int .u64 hi, .int .u64 lo], .int .i64 bits_] w fun e w' => AnyPf w bits_ e w' :=
  (maskOf_det six hi lo bits_ w hh hl m hm hm128 hb0).mono fun _ _ ⟨s, h, l, _, h1, h2⟩ => ⟨s, h, l, h1, h2⟩
end Go.Proofs.YtkbbmlkgaooaiaaGreatDoor
