/- Addresses as nine digits: laneref2.of. -/
import Derived.Test.YtkbbmlkgaooaiaaGreatDoorRe
import Derived.Test.YtkbbmlkgaooaiaaGreatDoorAdC
import Derived.Laws.BitsAllLaws
import Derived.Laws.ShiftsVarLaws
namespace Go.Proofs.YtkbbmlkgaooaiaaGreatDoor
open Go.RowKit Go.Hw

theorem re9 {W W2 : World} {R : Nat} {a0 a1 a2 a3 a4 a5 a6 a7 a8 v0 v1 v2 v3 v4 v5 v6 v7 v8 : Value} {T : TypeId} (hz : W.heap[R]? = some (.cells #[a0, a1, a2, a3, a4, a5, a6, a7, a8] T (0, 0))) (h : (((((((((W.setCell ⟨R, 0, none⟩ v0).setCell ⟨R, 1, none⟩ v1).setCell ⟨R, 2, none⟩ v2).setCell ⟨R, 3, none⟩ v3).setCell ⟨R, 4, none⟩ v4).setCell ⟨R, 5, none⟩ v5).setCell ⟨R, 6, none⟩ v6).setCell ⟨R, 7, none⟩ v7).setCell ⟨R, 8, none⟩ v8) = W2) : Re W W2 R #[v0, v1, v2, v3, v4, v5, v6, v7, v8] T := by
  have := ((((((((((Re.refl hz).set 0 v0).set 1 v1).set 2 v2).set 3 v3).set 4 v4).set 5 v5).set 6 v6).set 7 v7).set 8 v8)
  rw [h] at this
  simpa using this
theorem res9 {W : World} {R : Nat} {a0 a1 a2 a3 a4 a5 a6 a7 a8 : Value} {T : TypeId} (h : W.heap[R]? = some (.cells #[a0, a1, a2, a3, a4, a5, a6, a7, a8] T (0, 0))) : (W.cell? ⟨R, 0, none⟩ = some a0 ∧ W.cell? ⟨R, 1, none⟩ = some a1 ∧ W.cell? ⟨R, 2, none⟩ = some a2 ∧ W.cell? ⟨R, 3, none⟩ = some a3 ∧ W.cell? ⟨R, 4, none⟩ = some a4 ∧ W.cell? ⟨R, 5, none⟩ = some a5 ∧ W.cell? ⟨R, 6, none⟩ = some a6 ∧ W.cell? ⟨R, 7, none⟩ = some a7 ∧ W.cell? ⟨R, 8, none⟩ = some a8) ∧ W.frozen? ⟨R, 0, none⟩ = false ∧ W.frozen? ⟨R, 1, none⟩ = false ∧ W.frozen? ⟨R, 2, none⟩ = false ∧ W.frozen? ⟨R, 3, none⟩ = false ∧ W.frozen? ⟨R, 4, none⟩ = false ∧ W.frozen? ⟨R, 5, none⟩ = false ∧ W.frozen? ⟨R, 6, none⟩ = false ∧ W.frozen? ⟨R, 7, none⟩ = false ∧ W.frozen? ⟨R, 8, none⟩ = false := by
  refine ⟨⟨?_, ?_, ?_, ?_, ?_, ?_, ?_, ?_, ?_⟩, ?_, ?_, ?_, ?_, ?_, ?_, ?_, ?_, ?_⟩ <;> simp [World.cell?, World.frozen?, h]

theorem Re_size (w : World) (o : Obj) : (w.alloc o).heap.size = w.heap.size + 1 := by simp
/-- Nine digits in memory. -/
def arr9 (d : Nat → Int) : Array Value := #[.int .i64 (d 0), .int .i64 (d 1), .int .i64 (d 2), .int .i64 (d 3), .int .i64 (d 4), .int .i64 (d 5), .int .i64 (d 6), .int .i64 (d 7), .int .i64 (d 8)]
theorem arr_ext {d e : Nat → Int} (h : ∀ i, i < 9 → d i = e i) : arr9 d = arr9 e := by
  unfold arr9
  rw [h 0 (by omega), h 1 (by omega), h 2 (by omega), h 3 (by omega), h 4 (by omega), h 5 (by omega), h 6 (by omega), h 7 (by omega), h 8 (by omega)]
theorem arr_set (d : Nat → Int) {j : Nat} (hj : j < 9) (v : Int) : (arr9 d).setIfInBounds j (.int .i64 v) = arr9 (fun i => if i = j then v else d i) := by
  have : j = 0 ∨ j = 1 ∨ j = 2 ∨ j = 3 ∨ j = 4 ∨ j = 5 ∨ j = 6 ∨ j = 7 ∨ j = 8 := by omega
  rcases this with rfl | rfl | rfl | rfl | rfl | rfl | rfl | rfl | rfl <;> simp [arr9]
theorem arr_get {w : World} {B : Nat} {d : Nat → Int} {T : TypeId} (h : w.heap[B]? = some (.cells (arr9 d) T (0, 0))) {j : Nat} (hj : j < 9) : w.cell? ⟨B, j, none⟩ = some (.int .i64 (d j)) ∧ w.frozen? ⟨B, j, none⟩ = false := by
  have : j = 0 ∨ j = 1 ∨ j = 2 ∨ j = 3 ∨ j = 4 ∨ j = 5 ∨ j = 6 ∨ j = 7 ∨ j = 8 := by omega
  rcases this with rfl | rfl | rfl | rfl | rfl | rfl | rfl | rfl | rfl <;> simp [World.cell?, World.frozen?, h, arr9]
/-- Digit k of a number. -/
def dg (n : Int) (k : Nat) : Int := n / 2 ^ (16 * k) % 65536
theorem dg_bd (n : Int) (k : Nat) : 0 ≤ dg n k ∧ dg n k < 65536 := by
  unfold dg
  exact ⟨Int.emod_nonneg _ (by omega), Int.emod_lt_of_pos _ (by omega)⟩
theorem dg_eq {n : Int} (h0 : 0 ≤ n) (h1 : n ≤ 18446744073709551615) (k : Nat) : wrap64 (bits .and .u64 (n / 2 ^ (16 * k)) 65535) = dg n k := by
  have hq : 0 ≤ n / 2 ^ (16 * k) := Int.ediv_nonneg h0 (Int.le_of_lt (Int.pow_pos (by decide)))
  have hq2 : n / 2 ^ (16 * k) ≤ n := Int.ediv_le_self _ h0
  have hb := dg_bd n k
  have e : bits .and .u64 (n / 2 ^ (16 * k)) 65535 = dg n k := by
    rw [u64_and _ _ hq (by omega) (by omega) (by omega)]
    unfold dg
    generalize n / 2 ^ (16 * k) = q at *
    obtain ⟨Q, rfl⟩ := Int.eq_ofNat_of_zero_le hq
    rw [Int.toNat_natCast, show (65535 : Int).toNat = 65535 from rfl, nat_mask16]
    omega
  rw [e]
  exact IntWalk.wrap64_in _ (by omega)
/-- An address as digits. -/
def wd (six : Bool) (hi lo : Int) (i : Nat) : Int := if i < 4 then dg lo i else if i < 8 then dg hi (i - 4) else if six then 1 else 0
/-- Behind k rounds. -/
def wdk (hi lo : Int) (k i : Nat) : Int := if i < 4 then (if i < k then dg lo i else 0) else if i < 8 then (if i - 4 < k then dg hi (i - 4) else 0) else 0
theorem wdk_step (hi lo : Int) {k : Nat} (hk : k < 4) : ((arr9 (wdk hi lo k)).setIfInBounds k (.int .i64 (dg lo k))).setIfInBounds (4 + k) (.int .i64 (dg hi k)) = arr9 (wdk hi lo (k + 1)) := by
  rw [arr_set _ (by omega), arr_set _ (by omega)]
  apply arr_ext
  intro i hi9
  unfold wdk
  by_cases h1 : i = 4 + k
  · subst h1
    rw [if_pos rfl, if_neg (by omega), if_pos (by omega), if_pos (by omega)]
    congr 1
    omega
  · rw [if_neg h1]
    by_cases h2 : i = k
    · subst h2
      rw [if_pos rfl, if_pos (by omega), if_pos (by omega)]
    · rw [if_neg h2]
      by_cases h3 : i < 4
      · rw [if_pos h3, if_pos h3]
        by_cases h4 : i < k
        · rw [if_pos h4, if_pos (by omega)]
        · rw [if_neg h4, if_neg (by omega)]
      · rw [if_neg h3, if_neg h3]
        by_cases h5 : i < 8
        · rw [if_pos h5, if_pos h5]
          by_cases h4 : i - 4 < k
          · rw [if_pos h4, if_pos (by omega)]
          · rw [if_neg h4, if_neg (by omega)]
        · rw [if_neg h5, if_neg h5]
def wideV (d : Nat → Int) : Value := .agg (arr9 d)
def addrBox (six : Bool) (hi lo : Int) : Obj := .cells #[.bool six, .int .u64 hi, .int .u64 lo] 42 (0, 0)
def OfI (w : World) (six : Bool) (hi lo : Int) (k : Nat) (wr : World) : Prop :=
  Below w.heap.size w wr ∧ wr.heap[w.heap.size]? = some (addrBox six hi lo) ∧ wr.heap[w.heap.size + 1]? = some (.cells (arr9 fun _ => 0) 111 (0, 0)) ∧ wr.heap[w.heap.size + 1 + 1]? = some (.cells (arr9 (wdk hi lo k)) 111 (0, 0))

set_option maxRecDepth 100000 in
set_option maxHeartbeats 1000000 in
theorem of_any (six : Bool) (hi lo : Int) (w : World) (hh : 0 ≤ hi ∧ hi ≤ 18446744073709551615) (hl : 0 ≤ lo ∧ lo ≤ 18446744073709551615) :
    Calls Tryz.prog 56 #[.agg #[.bool six, .int .u64 hi, .int .u64 lo]] w fun e w' => e = .returned (wideV (wd six hi lo)) ∧ Below w.heap.size w w' := by
  have HH := Lib.hid hh
  have HL := Lib.hid hl
  obtain ⟨hh0, hh1⟩ := hh
  obtain ⟨hl0, hl1⟩ := hl
  go_enter Tryz.func56, Tryz.ntmps56
  go_wp2_with fail
  go_loopw [5] (fun i wr => ∃ k : Nat, k ≤ 4 ∧ i = .int .i64 k ∧ OfI w six hi lo k wr) (fun i _ => 4 - (intOf i).toNat)
  case atStart =>
    refine ⟨0, by omega, rfl, ((((Below.refl _ _).alloc (Nat.le_refl _) _).alloc (by simp <;> omega) _).alloc (by simp <;> omega) _), ?_, ?_, ?_⟩
    · exact (heap_alloc_old _ _ (by simp <;> omega)).trans ((heap_alloc_old _ _ (by simp <;> omega)).trans (heap_alloc_new w _))
    · have := heap_alloc_new (w.alloc (addrBox six hi lo)) (.cells (arr9 fun _ => 0) 111)
      simp only [Re_size] at this
      exact (heap_alloc_old _ _ (by simp <;> omega)).trans this
    · have := heap_alloc_new ((w.alloc (addrBox six hi lo)).alloc (.cells (arr9 fun _ => 0) 111)) (.cells (arr9 (wdk hi lo 0)) 111)
      simp only [Re_size] at this
      exact this
  case round =>
    obtain ⟨k, hk, rfl, hb, b0, b1, b2⟩ := hrel
    by_cases hlt : k < 4
    · obtain ⟨c2, f2⟩ := arr_get b2 (j := k) (by omega)
      obtain ⟨d2, g2⟩ := arr_get b2 (j := 4 + k) (by omega)
      obtain ⟨-, x1, x2, -⟩ := res3 b0
      have HB := Lib.hid hb
      have B0 := Lib.hid b0
      have B1 := Lib.hid b1
      have B2 := Lib.hid b2
      clear hb b0 b1 b2
      go_wp2_with fail
      rw [dg_eq hl0 hl1, dg_eq hh0 hh1]
      generalize hW : World.setCell _ _ _ = W2
      have hr := ((Re.refl B2.out).set k (.int .i64 (dg lo k))).set (4 + k) (.int .i64 (dg hi k))
      rw [hW, wdk_step hi lo hlt] at hr
      have hO : OfI w six hi lo (k + 1) W2 := ⟨hr.below HB.out (by omega), (hr.oth _ (by omega)).trans B0.out, (hr.oth _ (by omega)).trans B1.out, hr.blk⟩
      clear hW hr c2 f2 d2 g2 x1 x2
      go_roundw
      case rel => exact ⟨k + 1, by omega, by go_num, hO⟩
      case measure => simp [intOf]; omega
    · have : k = 4 := by omega
      subst this
      have HB := Lib.hid hb
      obtain ⟨x0, -, -, -⟩ := res3 b0
      have e4 : arr9 (wdk hi lo 4) = #[.int .i64 (wd six hi lo 0), .int .i64 (wd six hi lo 1), .int .i64 (wd six hi lo 2), .int .i64 (wd six hi lo 3), .int .i64 (wd six hi lo 4), .int .i64 (wd six hi lo 5), .int .i64 (wd six hi lo 6), .int .i64 (wd six hi lo 7), .int .i64 0] := by
        unfold arr9 wdk wd
        simp
      rw [e4] at b2
      have b1' : wr.heap[w.heap.size + 1]? = some (.cells #[.int .i64 0, .int .i64 0, .int .i64 0, .int .i64 0, .int .i64 0, .int .i64 0, .int .i64 0, .int .i64 0, .int .i64 0] 111 (0, 0)) := b1
      obtain ⟨⟨z0, z1, z2, z3, z4, z5, z6, z7, z8⟩, f0, f1, f2, f3, f4, f5, f6, f7, f8⟩ := res9 b1'
      obtain ⟨⟨d0, d1, d2, d3, d4, d5, d6, d7, d8⟩, -, -, -, -, -, -, -, -, g8⟩ := res9 b2
      have B1 := Lib.hid b1'
      have B2 := Lib.hid b2
      clear hb b0 b1 b1' b2 e4
      cases six
      · go_wp2_with fail
        clear z0 z1 z2 z3 z4 z5 z6 z7 z8 d0 d1 d2 d3 d4 d5 d6 d7 d8 f0 f1 f2 f3 f4 f5 f6 f7 f8 g8 x0
        generalize hW : World.setCell _ _ _ = W9
        have hr := re9 B1.out hW
        obtain ⟨⟨y0, y1, y2, y3, y4, y5, y6, y7, y8⟩, -⟩ := res9 hr.blk
        refine bodyPost_ret (v := wideV (wd false hi lo)) (by simp [results, Tryz.results56, go_sem, y0, y1, y2, y3, y4, y5, y6, y7, y8, wideV, arr9, show wd false hi lo 8 = 0 from rfl]) rfl ⟨rfl, hr.below HB.out (by omega)⟩
      · go_wp2_with fail
        clear z0 z1 z2 z3 z4 z5 z6 z7 z8 d0 d1 d2 d3 d4 d5 d6 d7 d8 f0 f1 f2 f3 f4 f5 f6 f7 f8 g8 x0
        have hs := (Re.refl B2.out).set 8 (.int .i64 1)
        have hz := (hs.oth (w.heap.size + 1) (by omega)).trans B1.out
        generalize hW : World.setCell _ _ _ = W9
        have hr := re9 hz hW
        obtain ⟨⟨y0, y1, y2, y3, y4, y5, y6, y7, y8⟩, -⟩ := res9 hr.blk
        refine bodyPost_ret (v := wideV (wd true hi lo)) (by simp [results, Tryz.results56, go_sem, y0, y1, y2, y3, y4, y5, y6, y7, y8, wideV, arr9, show wd true hi lo 8 = 1 from rfl]) rfl ⟨rfl, hr.below (hs.below HB.out (by omega)) (by omega)⟩
end Go.Proofs.YtkbbmlkgaooaiaaGreatDoor
