/- laneref2: lastOf; filled digits. laneref2: wide.cmp; the order by digits is the order by numbers. laneref2: wide numbers as numbers; plus. laneref2: wide.plus. -/
import Derived.Test.YtajifionclpphaaGreatDoorStU
import Derived.Laws.BitsAllLaws
import Derived.Laws.ShiftsVarLaws
import Derived.Deep.RegionHeld3
import Derived.Deep.RegionLaw
import Derived.Deep.Cut
import Derived.Deep.CutRange
import Derived.OwnWalk
import Derived.ChangeKeysEq
import Derived.Laws.StructEq
namespace Go.Proofs.YtajifionclpphaaGreatDoor
open Go.RowKit Go.Hw
/-- The digits with the last k bits set. -/
def fild (d : Nat → Int) (k i : Nat) : Int := fil (d i) (min 16 (k - 16 * i))
theorem fil_bit (D r i : Nat) : (D / 2 ^ r * 2 ^ r + (2 ^ r - 1)).testBit i = (decide (i < r) || D.testBit i) := by
  have hp : 2 ^ r - 1 < 2 ^ r := by have := Nat.two_pow_pos r; omega
  rw [Nat.mul_comm, Nat.testBit_two_pow_mul_add _ hp]
  by_cases h : i < r
  · rw [if_pos h, Nat.testBit_two_pow_sub_one]
    simp [h]
  · rw [if_neg h, Nat.testBit_div_two_pow, show i - r + r = i from by omega]
    simp [h]
theorem nat_orp {D r : Nat} : (D / 2 ^ r * 2 ^ r + (2 ^ r - 1)) ||| (2 ^ r) = D / 2 ^ (r + 1) * 2 ^ (r + 1) + (2 ^ (r + 1) - 1) := by
  apply Nat.eq_of_testBit_eq
  intro i
  rw [Nat.testBit_or, fil_bit, fil_bit, Nat.testBit_two_pow]
  by_cases h1 : r = i
  · subst h1; simp
  · by_cases h2 : i < r
    · simp [h2, show i < r + 1 by omega]
    · simp [h1, h2, show ¬ i < r + 1 by omega]
theorem i64_or {X Y : Nat} (hX : X < 9223372036854775808) (hY : Y < 9223372036854775808) : bits .or .i64 (X : Int) (Y : Int) = ((X ||| Y : Nat) : Int) := by
  have hx : X ||| Y < 2 ^ 63 := Nat.or_lt_two_pow (by omega) (by omega)
  show IntKind.i64.wrap ((BitVec.ofInt 64 (X : Int) ||| BitVec.ofInt 64 (Y : Int)).toNat : Int) = _
  rw [BitVec.toNat_or, ofInt_u64 X (by omega), ofInt_u64 Y (by omega)]
  exact IntWalk.i64_in _ (by omega)
theorem fil_nat (D m : Nat) : fil (D : Int) m = ((D / 2 ^ m * 2 ^ m + (2 ^ m - 1) : Nat) : Int) := by
  have := Nat.two_pow_pos m
  unfold fil lowM clr
  rw [Int.natCast_add, Int.natCast_sub (by omega)]
  simp
theorem fil_step {x : Int} {r : Nat} (h0 : 0 ≤ x) (h1 : x < 65536) (hr : r < 16) : bits .or .i64 (fil x r) (IntKind.i64.wrap (2 ^ r)) = fil x (r + 1) := by
  obtain ⟨D, rfl⟩ := Int.eq_ofNat_of_zero_le h0
  have h2 : (2 : Nat) ^ r ≤ 2 ^ 15 := Nat.pow_le_pow_right (by omega) (by omega)
  have h3 : (2 : Nat) ^ 15 = 32768 := by decide
  have e2 : IntKind.i64.wrap ((2 : Int) ^ r) = ((2 ^ r : Nat) : Int) := by
    have e3 : ((2 : Int) ^ r) = ((2 ^ r : Nat) : Int) := by simp
    rw [e3]
    generalize (2 ^ r : Nat) = P at *
    exact IntWalk.i64_in _ (by omega)
  have hle : D / 2 ^ r * 2 ^ r ≤ D := Nat.div_mul_le_self _ _
  rw [e2, fil_nat, fil_nat, i64_or (by omega) (by omega), nat_orp]
theorem fild_step {d : Nat → Int} {k j r : Nat} (hk : k = 16 * j + r) (hr : r < 16) : arr9 (fun i => if i = j then fil (d j) (r + 1) else fild d k i) = arr9 (fild d (k + 1)) := arr_ext fun i _ => by
  unfold fild
  by_cases h : i = j
  · subst h
    rw [if_pos rfl, show min 16 (k + 1 - 16 * i) = r + 1 from by omega]
  · rw [if_neg h]
    congr 1
    omega
theorem fild_zero (d : Nat → Int) : arr9 (fild d 0) = arr9 d := arr_ext fun i _ => by
  unfold fild fil lowM clr
  rw [show min 16 (0 - 16 * i) = 0 from by omega]
  simp
theorem fil_dg {n : Int} (h : U64 n) (M i : Nat) : fil (dg n i) (min 16 (M - 16 * i)) = dg (fil n M) i := by
  obtain ⟨N, rfl⟩ := Int.eq_ofNat_of_zero_le h.1
  have e1 : ∀ X : Nat, dg (X : Int) i = ((X / 2 ^ (16 * i) % 65536 : Nat) : Int) := fun X => by unfold dg; simp
  rw [e1, fil_nat, fil_nat, e1]
  congr 1
  apply Nat.eq_of_testBit_eq
  intro j
  rw [fil_bit, show (65536 : Nat) = 2 ^ 16 from rfl, Nat.testBit_mod_two_pow, Nat.testBit_mod_two_pow, Nat.testBit_div_two_pow, Nat.testBit_div_two_pow, fil_bit]
  by_cases h1 : j < 16
  · by_cases h2 : j < min 16 (M - 16 * i)
    · rw [decide_eq_true h2, decide_eq_true (show j + 16 * i < M by omega)]
      simp [h1]
    · rw [decide_eq_false h2, decide_eq_false (show ¬ j + 16 * i < M by omega)]
      simp
  · rw [decide_eq_false h1, decide_eq_false (show ¬ j < min 16 (M - 16 * i) by omega)]
    simp
theorem fil_min {x : Int} {a b : Nat} (h : a = b) : fil x a = fil x b := by rw [h]
theorem fild_wd {s : Bool} {hi lo : Int} (uh : U64 hi) (ul : U64 lo) {m : Nat} (hm : m ≤ 128) {i : Nat} (hi9 : i < 9) : fild (wd s hi lo) m i = wd s (fil hi (m - 64)) (fil lo (min 64 m)) i := by
  unfold fild wd
  by_cases h1 : i < 4
  · rw [if_pos h1, if_pos h1, ← fil_dg ul]
    exact fil_min (by omega)
  · rw [if_neg h1, if_neg h1]
    by_cases h2 : i < 8
    · rw [if_pos h2, if_pos h2, ← fil_dg uh]
      exact fil_min (by omega)
    · rw [if_neg h2, if_neg h2]
      have : min 16 (m - 16 * i) = 0 := by omega
      rw [this]
      unfold fil lowM clr
      simp

def LaI (w : World) (B : Nat) (d : Nat → Int) (k : Nat) (wr : World) : Prop :=
  Below w.heap.size w wr ∧ wr.heap[w.heap.size + 1]? = some (.cells (arr9 fun _ => 0) 169 (0, 0)) ∧ wr.heap[B]? = some (.cells (arr9 (fild d k)) 169 (0, 0))
set_option maxRecDepth 100000 in
set_option maxHeartbeats 1000000 in
theorem lastOf_any (six : Bool) (hi lo bits_ : Int) (w : World) (hh : U64 hi) (hl : U64 lo) (m : Nat) (hm : lenA six - bits_ = m) (hm128 : m ≤ 128) (_hb0 : 0 ≤ bits_) :
    Calls Tryz.prog 125 #[.agg #[.bool six, .int .u64 hi, .int .u64 lo, .int .i64 bits_]] w fun e w' => e = .returned (wideV (fild (wd six hi lo) m)) ∧ Below w.heap.size w w' := by
  have HM := Lib.hid hm
  have hlen : lenA six ≤ 128 := by unfold lenA; split <;> omega
  have hln0 : 0 ≤ lenA six := by unfold lenA; split <;> omega
  have hb1 : bits_ ≤ lenA six := by omega
  clear hm
  have b0 : ((w.alloc (pfBox six hi lo bits_)).alloc (.cells (arr9 fun _ => 0) 169)).heap[w.heap.size]? = some (pfBox six hi lo bits_) := (heap_alloc_old _ _ (by simp)).trans (heap_alloc_new w _)
  have b1 : ((w.alloc (pfBox six hi lo bits_)).alloc (.cells (arr9 fun _ => 0) 169)).heap[w.heap.size + 1]? = some (.cells (arr9 fun _ => 0) 169 (0, 0)) := by
    have := heap_alloc_new (w.alloc (pfBox six hi lo bits_)) (.cells (arr9 fun _ => 0) 169)
    simp only [Re_size] at this
    exact this
  have hB := (((Below.refl w.heap.size w).alloc (Nat.le_refl _) (pfBox six hi lo bits_)).alloc (by simp) (.cells (arr9 fun _ => 0) 169))
  have hsz : w.heap.size + 2 ≤ ((w.alloc (pfBox six hi lo bits_)).alloc (.cells (arr9 fun _ => 0) 169)).heap.size := by simp
  unfold pfBox at b0 b1 hB hsz
  obtain ⟨⟨x0, x1, x2, x3⟩, -⟩ := res4 b0
  unfold arr9 at b1 hB hsz x0 x1 x2 x3
  have B1 := Lib.hid b1
  have HB := Lib.hid hB
  clear b0 b1 hB
  have HH := Lib.hid hh
  have HL := Lib.hid hl
  clear hh hl
  go_enter Tryz.func125, Tryz.ntmps125
  go_wp2_with fail
  generalize hW : World.alloc _ _ = W at x0 x1 x2 x3 hsz ⊢
  have HBW : Hid (Below w.heap.size w W) := Lib.hid (by rw [← hW]; exact HB.out)
  have BW : Hid (W.heap[w.heap.size + 1]? = some (.cells (arr9 fun _ => 0) 169 (0, 0))) := Lib.hid (by rw [← hW]; exact B1.out)
  clear hW HB B1
  refine (of_any six hi lo _ HH.out HL.out).mono ?_
  rintro e W1 ⟨rfl, hb⟩
  have x0 : W1.cell? ⟨w.heap.size, 0, none⟩ = some (.bool six) := (hb.cell (p := ⟨w.heap.size, 0, none⟩) (by first | (simp; done) | (simp; omega) | omega)).trans (by first | assumption | (go_simp; done))
  have x1 : W1.cell? ⟨w.heap.size, 1, none⟩ = some (.int .u64 hi) := (hb.cell (p := ⟨w.heap.size, 1, none⟩) (by first | (simp; done) | (simp; omega) | omega)).trans (by first | assumption | (go_simp; done))
  have x2 : W1.cell? ⟨w.heap.size, 2, none⟩ = some (.int .u64 lo) := (hb.cell (p := ⟨w.heap.size, 2, none⟩) (by first | (simp; done) | (simp; omega) | omega)).trans (by first | assumption | (go_simp; done))
  have x3 : W1.cell? ⟨w.heap.size, 3, none⟩ = some (.int .i64 bits_) := (hb.cell (p := ⟨w.heap.size, 3, none⟩) (by first | (simp; done) | (simp; omega) | omega)).trans (by first | assumption | (go_simp; done))
  have hw1 : w.heap.size + 2 ≤ W1.heap.size := by have := hb.size; omega
  have BW1 := Lib.hid ((hb.block (w.heap.size + 1) (by omega)).trans BW.out)
  have HB1 := Lib.hid (HBW.out.trans (hb.mono (by omega)))
  unfold wideV arr9
  clear hb BW HBW hsz
  go_wp2_with fail
  have hb2 : Below w.heap.size w (W1.alloc (.cells (arr9 (wd six hi lo)) 169)) := HB1.out.alloc HB1.out.size _
  have hd2 : (W1.alloc (.cells (arr9 (wd six hi lo)) 169)).heap[W1.heap.size]? = some (.cells (arr9 (wd six hi lo)) 169 (0, 0)) := heap_alloc_new W1 _
  have hr2 : (W1.alloc (.cells (arr9 (wd six hi lo)) 169)).heap[w.heap.size + 1]? = some (.cells (arr9 fun _ => 0) 169 (0, 0)) := (heap_alloc_old _ _ (by omega)).trans BW1.out
  have hsz : W1.heap.size + 1 ≤ (W1.alloc (.cells (arr9 (wd six hi lo)) 169)).heap.size := by simp
  unfold arr9 at hb2 hd2 hr2 hsz
  generalize hW2 : World.alloc _ _ = W2 at hb2 hd2 hr2 hsz ⊢
  have x0 : W2.cell? ⟨w.heap.size, 0, none⟩ = some (.bool six) := by rw [← hW2]; exact (World.cell?_alloc_lt _ _ ⟨w.heap.size, 0, none⟩ (by simp only; omega)).trans x0
  have x1 : W2.cell? ⟨w.heap.size, 1, none⟩ = some (.int .u64 hi) := by rw [← hW2]; exact (World.cell?_alloc_lt _ _ ⟨w.heap.size, 1, none⟩ (by simp only; omega)).trans x1
  have x2 : W2.cell? ⟨w.heap.size, 2, none⟩ = some (.int .u64 lo) := by rw [← hW2]; exact (World.cell?_alloc_lt _ _ ⟨w.heap.size, 2, none⟩ (by simp only; omega)).trans x2
  have x3 : W2.cell? ⟨w.heap.size, 3, none⟩ = some (.int .i64 bits_) := by rw [← hW2]; exact (World.cell?_alloc_lt _ _ ⟨w.heap.size, 3, none⟩ (by simp only; omega)).trans x3
  have HBW := Lib.hid hb2
  have D2 := Lib.hid hd2
  have R2 := Lib.hid hr2
  clear hW2 hb2 hd2 hr2 HB1 BW1
  go_region_held3 (fun w' => w'.cell? ⟨w.heap.size, 0, none⟩ = some (.bool six) ∧ w'.cell? ⟨w.heap.size, 1, none⟩ = some (.int .u64 hi) ∧ w'.cell? ⟨w.heap.size, 2, none⟩ = some (.int .u64 lo) ∧ w'.cell? ⟨w.heap.size, 3, none⟩ = some (.int .i64 bits_))
    (first | exact ⟨x0, x1, x2, x3⟩ | ((repeat' apply And.intro) <;> (first | (go_simp; done) | with_reducible assumption)))
    (first | (go_at_call 124; refine (refLength_any _ _ _ _).mono ?_; rintro e W3 ⟨rfl, hb3⟩; have x0 : W3.cell? ⟨w.heap.size, 0, none⟩ = some (.bool six) := (hb3.cell (p := ⟨w.heap.size, 0, none⟩) (by first | (simp; done) | (simp; omega) | omega)).trans (by first | assumption | (go_simp; done)); have x1 : W3.cell? ⟨w.heap.size, 1, none⟩ = some (.int .u64 hi) := (hb3.cell (p := ⟨w.heap.size, 1, none⟩) (by first | (simp; done) | (simp; omega) | omega)).trans (by first | assumption | (go_simp; done)); have x2 : W3.cell? ⟨w.heap.size, 2, none⟩ = some (.int .u64 lo) := (hb3.cell (p := ⟨w.heap.size, 2, none⟩) (by first | (simp; done) | (simp; omega) | omega)).trans (by first | assumption | (go_simp; done)); have x3 : W3.cell? ⟨w.heap.size, 3, none⟩ = some (.int .i64 bits_) := (hb3.cell (p := ⟨w.heap.size, 3, none⟩) (by first | (simp; done) | (simp; omega) | omega)).trans (by first | assumption | (go_simp; done)); have D3 : Hid (W3.heap[W1.heap.size]? = _) := (by first | exact Lib.hid ((hb3.block W1.heap.size (show W1.heap.size < W2.heap.size by omega)).trans D2.out)); have R3 : Hid (W3.heap[w.heap.size + 1]? = _) := (by first | exact Lib.hid ((hb3.block (w.heap.size + 1) (show w.heap.size + 1 < W2.heap.size by omega)).trans R2.out)); have HBW : Hid (Below w.heap.size w W3) := (by first | exact Lib.hid (HBW.out.trans (hb3.mono (by omega))) | exact Lib.hid (HBW.out.drew.trans (hb3.mono (show w.heap.size ≤ W2.heap.size by omega))))))
  have h0 : LaI w W1.heap.size (wd six hi lo) 0 W3 := ⟨HBW.out, R3.out, by rw [fild_zero]; exact D3.out⟩
  have H0 := Lib.hid h0
  clear h0 D3 R3 D2 R2 HBW hb3 HH HL x0 x1 x2 x3
  go_wp2_with fail
  rw [HM.out]
  go_loopw [14] (fun i wr => ∃ k : Nat, k ≤ m ∧ i = .int .i64 k ∧ LaI w W1.heap.size (wd six hi lo) k wr) (fun i _ => m - (intOf i).toNat)
  case atStart => exact ⟨0, by omega, rfl, H0.out⟩
  case round =>
    obtain ⟨k, hk, rfl, hb, b1, b2⟩ := hrel
    by_cases hlt : k < m
    · obtain ⟨j, r, hkj, hr16⟩ : ∃ j r, k = 16 * j + r ∧ r < 16 := ⟨k / 16, k % 16, by omega, by omega⟩
      have e1 : (k : Int).tdiv 16 = (j : Int) := by rw [Int.tdiv_eq_ediv_of_nonneg (by omega)]; omega
      have e2 : (k : Int).tmod 16 = (r : Int) := by rw [Int.tmod_eq_emod_of_nonneg (by omega)]; omega
      have e3 : (k : Int) / 16 = (j : Int) := by omega
      have e4 : (k : Int) % 16 = (r : Int) := by omega
      have hj : j < 9 := by omega
      have s0 : IntKind.i64.wrap (j : Int) = (j : Int) := IntWalk.i64_in _ (by omega)
      have s1 : IntKind.i64.wrap (r : Int) = (r : Int) := IntWalk.i64_in _ (by omega)
      have hj' : (j : Int) < 9 := by omega
      obtain ⟨c, f⟩ := arr_get b2 (j := j) hj
      have HKJ := Lib.hid hkj
      have B1 := Lib.hid b1
      have B2 := Lib.hid b2
      have HB := Lib.hid hb
      generalize hx : fild (wd six hi lo) k j = x at c
      have HX := Lib.hid hx
      clear hkj b1 b2 hb hx
      go_wp2_with fail
      go_still_tail 9, (by kernel_rfl)
      change wpList _ _ _ _ _ wr.drew
      have c' : wr.drew.cell? ⟨W1.heap.size, j, none⟩ = some (.int .i64 x) := c
      have f' : wr.drew.frozen? ⟨W1.heap.size, j, none⟩ = false := f
      have hs := (Re.refl (show wr.drew.heap[W1.heap.size]? = _ from B2.out)).set j (.int .i64 (fil (wd six hi lo j) (r + 1)))
      have hv : bits .or .i64 x (IntKind.i64.wrap (2 ^ r)) = fil (wd six hi lo j) (r + 1) := by
        rw [← HX.out]
        have := fil_step (wd_bd six hi lo j).1 (wd_bd six hi lo j).2 hr16
        unfold fild
        rw [show min 16 (k - 16 * j) = r from by have := HKJ.out; omega]
        exact this
      rw [arr_set _ hj, fild_step HKJ.out hr16] at hs
      have hO : LaI w W1.heap.size (wd six hi lo) (k + 1) (wr.drew.setCell ⟨W1.heap.size, j, none⟩ (.int .i64 (fil (wd six hi lo j) (r + 1)))) := ⟨hs.below HB.out.drew (by omega), (hs.oth _ (by omega)).trans B1.out, hs.blk⟩
      have HO := Lib.hid hO
      clear hO hs c f
      rw [hv]
      generalize wr.drew = wz at *
      go_wp2_with fail
      go_roundw
      case rel => exact ⟨k + 1, by omega, by go_num, HO.out⟩
      case measure => simp [intOf]; omega
    · have : k = m := by omega
      subst this
      have b1' : wr.heap[w.heap.size + 1]? = some (.cells #[.int .i64 0, .int .i64 0, .int .i64 0, .int .i64 0, .int .i64 0, .int .i64 0, .int .i64 0, .int .i64 0, .int .i64 0] 169 (0, 0)) := b1
      obtain ⟨⟨z0, z1, z2, z3, z4, z5, z6, z7, z8⟩, f0, f1, f2, f3, f4, f5, f6, f7, f8⟩ := res9w b1'
      obtain ⟨⟨d0, d1, d2, d3, d4, d5, d6, d7, d8⟩, -⟩ := res9w b2
      have B1 := Lib.hid b1'
      have HB := Lib.hid hb
      clear hb b1 b1' b2
      go_wp2_with fail
      clear z0 z1 z2 z3 z4 z5 z6 z7 z8 d0 d1 d2 d3 d4 d5 d6 d7 d8 f0 f1 f2 f3 f4 f5 f6 f7 f8
      generalize hW : World.setCell _ _ _ = W9
      have hr := re9w B1.out hW
      obtain ⟨⟨y0, y1, y2, y3, y4, y5, y6, y7, y8⟩, -⟩ := res9w hr.blk
      refine bodyPost_ret (v := wideV (fild (wd six hi lo) k)) (by simp [results, Tryz.results125, go_sem, y0, y1, y2, y3, y4, y5, y6, y7, y8, wideV, arr9]) rfl ⟨rfl, hr.below HB.out (by omega)⟩
end Go.Proofs.YtajifionclpphaaGreatDoor

namespace Go.Proofs.YtajifionclpphaaGreatDoor
open Go.RowKit Go.Hw
def sgn (n : Int) : Int := if n < 0 then -1 else if 0 < n then 1 else 0
theorem sign_any (n : Int) (w : World) : Calls Tryz.prog 179 #[.int .i64 n] w fun e w' => e = .returned (.int .i64 (sgn n)) ∧ w' = w := by
  by_cases h1 : n < 0
  · have HF : Hid (sgn n = -1) := Lib.hid (by unfold sgn; rw [if_pos h1])
    go_enter Tryz.func179, Tryz.ntmps179
    go_wp2_with fail
    go_ret
    exact ⟨ret_eq HF.out.symm, rfl⟩
  · by_cases h2 : 0 < n
    · have HF : Hid (sgn n = 1) := Lib.hid (by unfold sgn; rw [if_neg h1, if_pos h2])
      go_enter Tryz.func179, Tryz.ntmps179
      go_wp2_with fail
      go_ret
      exact ⟨ret_eq HF.out.symm, rfl⟩
    · have HF : Hid (sgn n = 0) := Lib.hid (by unfold sgn; rw [if_neg h1, if_neg h2])
      go_enter Tryz.func179, Tryz.ntmps179
      go_wp2_with fail
      go_ret
      exact ⟨ret_eq HF.out.symm, rfl⟩
/-- The order of the first n digits; the last of them counts first. -/
def cmpN (d e : Nat → Int) : Nat → Int
  | 0 => 0
  | n + 1 => if d n = e n then cmpN d e n else sgn (d n - e n)
def CmI (w : World) (d e : Nat → Int) (v5 : Value) (wr : World) : Prop :=
  ∃ k : Nat, k ≤ 9 ∧ v5 = .int .i64 ((k : Int) - 1) ∧ cmpN d e 9 = cmpN d e k ∧ Below w.heap.size w wr ∧ wr.heap[w.heap.size]? = some (.cells (arr9 d) 169 (0, 0)) ∧ wr.heap[w.heap.size + 1]? = some (.cells (arr9 e) 169 (0, 0))
theorem Tryz.infoIntW : (Tryz.prog.info? 3).map (fun i => (i.zero, i.size, i.bytes)) = some (some (.int .i64 0), 1, 8) := by kernel_rfl
theorem arr_gets' {w : World} {B : Nat} {d : Nat → Int} {T : TypeId} (h : w.heap[B]? = some (.cells (arr9 d) T (0, 0))) : ∀ j, j < 9 → w.cell? ⟨B, j, none⟩ = some (.int .i64 (d j)) := fun _ hj => (arr_get h hj).1
set_option maxRecDepth 100000 in
set_option maxHeartbeats 1000000 in
theorem wideCmp_any (d e : Nat → Int) (w : World) (hd : ∀ i, 0 ≤ d i ∧ d i < 65536) (he : ∀ i, 0 ≤ e i ∧ e i < 65536) :
    Calls Tryz.prog 126 #[wideV d, wideV e] w fun x w' => x = .returned (.int .i64 (cmpN d e 9)) ∧ Below w.heap.size w w' := by
  have HD := Lib.hid hd
  have HE := Lib.hid he
  clear hd he
  unfold wideV
  go_enter Tryz.func126, Tryz.ntmps126
  unfold arr9
  go_wp2_with fail
  go_loopw [5] (fun v5 wr => CmI w d e v5 wr) (fun v5 _ => (intOf v5 + 1).toNat)
  case atStart =>
    refine ⟨9, by omega, rfl, rfl, ((Below.refl _ _).alloc (Nat.le_refl _) _).alloc (by simp) _, ?_, ?_⟩
    · exact (heap_alloc_old _ _ (by simp)).trans (heap_alloc_new w _)
    · have := heap_alloc_new (w.alloc (.cells (arr9 d) 169)) (.cells (arr9 e) 169)
      simp only [Re_size] at this
      exact this
  case round =>
    obtain ⟨k, hk, rfl, hc, hb, b0, b1⟩ := hrel
    have HC := Lib.hid hc
    have HB := Lib.hid hb
    have B0 := Lib.hid b0
    have B1 := Lib.hid b1
    rcases k with _ | j
    · clear hc hb b0 b1
      go_wp2_with fail
      go_ret
      exact ⟨ret_eq HC.out.symm, HB.out⟩
    · have c0 := arr_gets' b0 j (by omega)
      have c1 := arr_gets' b1 j (by omega)
      have hdj := HD.out j
      have hej := HE.out j
      have hcj : Hid (cmpN d e 9 = if d j = e j then cmpN d e j else sgn (d j - e j)) := Lib.hid hc
      have s0 : ((j + 1 : Nat) : Int) - 1 = (j : Int) := by omega
      have s1 : (j : Int) < 9 := by omega
      generalize d j = dj at *
      generalize e j = ej at *
      clear hc hb b0 b1 HC
      rw [s0]
      by_cases hq : dj = ej
      · subst hq
        go_wp2_with fail
        go_quiet (fail)
        go_wp2_with fail
        go_roundw
        case rel => exact ⟨j, by omega, by go_num, by rw [hcj.out, if_pos trivial], ⟨HB.out.os, HB.out.tape, HB.out.output, HB.out.size, HB.out.block⟩, B0.out, B1.out⟩
        case measure => simp [intOf] <;> omega
      · have hq1 : (dj != ej) = true := by simpa using hq
        have HQ : Hid (cmpN d e 9 = sgn (dj - ej)) := Lib.hid (by rw [hcj.out, if_neg hq])
        have s2 : IntKind.i64.wrap (dj - ej) = dj - ej := IntWalk.i64_in _ (by omega)
        clear hq hcj
        go_wp2_with fail
        go_quiet (fail)
        have c0' : (wr.drewN nq).cell? ⟨w.heap.size, j, none⟩ = some (.int .i64 dj) := c0
        have c1' : (wr.drewN nq).cell? ⟨w.heap.size + 1, j, none⟩ = some (.int .i64 ej) := c1
        have HBq : Hid (Below w.heap.size w (wr.drewN nq)) := Lib.hid ⟨HB.out.os, HB.out.tape, HB.out.output, HB.out.size, HB.out.block⟩
        generalize wr.drewN nq = wq at *
        clear c0 c1
        go_wp2_with fail
        go_quiet ((go_at_call 179; exact Calls.quiet_of_same (sign_any _ _)))
        go_wp2_with fail
        go_ret
        exact ⟨ret_eq HQ.out.symm, ⟨HBq.out.os, HBq.out.tape, HBq.out.output, HBq.out.size, HBq.out.block⟩⟩
theorem sgn_cmp (a b : Int) : sgn (a - b) = cmpI a b := by
  unfold sgn cmpI
  by_cases h1 : a < b
  · rw [if_pos (by omega), if_pos h1]
  · rw [if_neg (by omega), if_neg h1]
    by_cases h2 : b < a
    · rw [if_pos (by omega), if_pos h2]
    · rw [if_neg (by omega), if_neg h2]
theorem cmp_four {n k : Int} (h : U64 n) (h' : U64 k) (r : Int) :
    (if dg n 3 = dg k 3 then if dg n 2 = dg k 2 then if dg n 1 = dg k 1 then if dg n 0 = dg k 0 then r else cmpI (dg n 0) (dg k 0) else cmpI (dg n 1) (dg k 1) else cmpI (dg n 2) (dg k 2) else cmpI (dg n 3) (dg k 3)) = if n = k then r else cmpI n k := by
  have h1 := num_dg h
  have h2 := num_dg h'
  have a0 := dg_bd n 0
  have a1 := dg_bd n 1
  have a2 := dg_bd n 2
  have a3 := dg_bd n 3
  have b0 := dg_bd k 0
  have b1 := dg_bd k 1
  have b2 := dg_bd k 2
  have b3 := dg_bd k 3
  generalize dg n 0 = n0 at *
  generalize dg n 1 = n1 at *
  generalize dg n 2 = n2 at *
  generalize dg n 3 = n3 at *
  generalize dg k 0 = k0 at *
  generalize dg k 1 = k1 at *
  generalize dg k 2 = k2 at *
  generalize dg k 3 = k3 at *
  have hc : ∀ a b : Int, a ≠ b → n ≠ k → ((a < b → n < k) ∧ (b < a → k < n)) → cmpI a b = cmpI n k := by
    intro a b hab hnk hh
    unfold cmpI
    by_cases c1 : a < b
    · rw [if_pos c1, if_pos (hh.1 c1)]
    · rw [if_neg c1, if_pos (show b < a by omega), if_neg (by have := hh.2 (by omega); omega), if_pos (hh.2 (by omega))]
  by_cases e3 : n3 = k3
  · rw [if_pos e3]
    by_cases e2 : n2 = k2
    · rw [if_pos e2]
      by_cases e1 : n1 = k1
      · rw [if_pos e1]
        by_cases e0 : n0 = k0
        · rw [if_pos e0, if_pos (by omega)]
        · rw [if_neg e0, if_neg (by omega)]
          exact hc _ _ e0 (by omega) ⟨fun _ => by omega, fun _ => by omega⟩
      · rw [if_neg e1, if_neg (by omega)]
        exact hc _ _ e1 (by omega) ⟨fun _ => by omega, fun _ => by omega⟩
    · rw [if_neg e2, if_neg (by omega)]
      exact hc _ _ e2 (by omega) ⟨fun _ => by omega, fun _ => by omega⟩
  · rw [if_neg e3, if_neg (by omega)]
    exact hc _ _ e3 (by omega) ⟨fun _ => by omega, fun _ => by omega⟩
theorem cmpI_same (a : Int) : cmpI a a = 0 := by unfold cmpI; simp
theorem cmpI_ne {a b : Int} (h : a ≠ b) : cmpI a b ≠ 0 := by
  unfold cmpI
  by_cases h1 : a < b
  · rw [if_pos h1]; decide
  · rw [if_neg h1, if_pos (by omega)]; decide
/-- The order by digits is the order by numbers. -/
theorem cmp_span {s s' : Bool} {h l h' l' : Int} (uh : U64 h) (ul : U64 l) (uh' : U64 h') (ul' : U64 l') : cmpN (wd s h l) (wd s' h' l') 9 = spanC s h l s' h' l' := by
  have e8 : wd s h l 8 = if s then 1 else 0 := rfl
  have e8' : wd s' h' l' 8 = if s' then 1 else 0 := rfl
  by_cases hs : s = s'
  · subst hs
    have hhi := cmp_four uh uh' (cmpN (wd s h l) (wd s h' l') 4)
    have hlo := cmp_four ul ul' 0
    unfold spanC
    rw [if_pos rfl]
    have h9 : cmpN (wd s h l) (wd s h' l') 9 = cmpN (wd s h l) (wd s h' l') 8 := by
      show (if wd s h l 8 = wd s h' l' 8 then _ else _) = _
      rw [if_pos (by rw [e8, e8'])]
    have h84 : cmpN (wd s h l) (wd s h' l') 8 = if h = h' then cmpN (wd s h l) (wd s h' l') 4 else cmpI h h' := by
      rw [← hhi]
      simp only [cmpN, sgn_cmp]
      rfl
    have h40 : cmpN (wd s h l) (wd s h' l') 4 = if l = l' then 0 else cmpI l l' := by
      rw [← hlo]
      simp only [cmpN, sgn_cmp]
      rfl
    rw [h9, h84, h40]
    unfold orOf orOf orOf
    by_cases c1 : h = h'
    · subst c1
      rw [if_pos rfl, if_pos (cmpI_same h)]
      by_cases c2 : l = l'
      · subst c2
        rw [if_pos rfl, if_pos (cmpI_same l)]
      · rw [if_neg c2, if_neg (cmpI_ne c2)]
    · rw [if_neg c1, if_neg (cmpI_ne c1)]
  · unfold spanC
    rw [if_neg hs]
    show (if wd s h l 8 = wd s' h' l' 8 then _ else sgn (wd s h l 8 - wd s' h' l' 8)) = _
    rw [e8, e8']
    cases s <;> cases s' <;> simp at hs ⊢ <;> rfl
end Go.Proofs.YtajifionclpphaaGreatDoor

namespace Go.Proofs.YtajifionclpphaaGreatDoor
open Go.RowKit Go.Hw
def dgs (d : Nat → Int) : Prop := ∀ i, 0 ≤ d i ∧ d i < 65536
theorem wd_dgs (s : Bool) (h l : Int) : dgs (wd s h l) := wd_bd s h l
end Go.Proofs.YtajifionclpphaaGreatDoor

namespace Go.Proofs.YtajifionclpphaaGreatDoor
open Go.RowKit Go.Hw
end Go.Proofs.YtajifionclpphaaGreatDoor
