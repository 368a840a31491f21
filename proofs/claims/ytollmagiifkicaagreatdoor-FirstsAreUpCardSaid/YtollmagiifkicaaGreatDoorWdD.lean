/- Addresses as nine digits: wide.cmp, Order, equality. -/
import Derived.Test.YtollmagiifkicaaGreatDoorWdB
import Derived.Test.YtollmagiifkicaaGreatDoorCmpI
import Derived.Deep.RegionHeld3
import Derived.ChangeKeysEq
import Derived.Laws.StructEq
namespace Go.Proofs.YtollmagiifkicaaGreatDoor
open Go.RowKit Go.Hw

def sgn (n : Int) : Int := if n < 0 then -1 else if 0 < n then 1 else 0
theorem sign_any (n : Int) (w : World) : Calls Tryz.prog 96 #[.int .i64 n] w fun e w' => e = .returned (.int .i64 (sgn n)) ∧ w' = w := by
  by_cases h1 : n < 0
  · have HF : Hid (sgn n = -1) := Lib.hid (by unfold sgn; rw [if_pos h1])
    go_enter Tryz.func96, Tryz.ntmps96
    go_wp2_with fail
    go_ret
    exact ⟨ret_eq HF.out.symm, rfl⟩
  · by_cases h2 : 0 < n
    · have HF : Hid (sgn n = 1) := Lib.hid (by unfold sgn; rw [if_neg h1, if_pos h2])
      go_enter Tryz.func96, Tryz.ntmps96
      go_wp2_with fail
      go_ret
      exact ⟨ret_eq HF.out.symm, rfl⟩
    · have HF : Hid (sgn n = 0) := Lib.hid (by unfold sgn; rw [if_neg h1, if_neg h2])
      go_enter Tryz.func96, Tryz.ntmps96
      go_wp2_with fail
      go_ret
      exact ⟨ret_eq HF.out.symm, rfl⟩
/-- The order of the first n digits; the last of them counts first. -/
def cmpN (d e : Nat → Int) : Nat → Int
  | 0 => 0
  | n + 1 => if d n = e n then cmpN d e n else sgn (d n - e n)
def CmI (w : World) (d e : Nat → Int) (v5 : Value) (wr : World) : Prop :=
  ∃ k : Nat, k ≤ 9 ∧ v5 = .int .i64 ((k : Int) - 1) ∧ cmpN d e 9 = cmpN d e k ∧ Below w.heap.size w wr ∧ wr.heap[w.heap.size]? = some (.cells (arr9 d) 126 (0, 0)) ∧ wr.heap[w.heap.size + 1]? = some (.cells (arr9 e) 126 (0, 0))
theorem Tryz.infoIntW : (Tryz.prog.info? 3).map (fun i => (i.zero, i.size, i.bytes)) = some (some (.int .i64 0), 1, 8) := by kernel_rfl
theorem arr_gets' {w : World} {B : Nat} {d : Nat → Int} {T : TypeId} (h : w.heap[B]? = some (.cells (arr9 d) T (0, 0))) : ∀ j, j < 9 → w.cell? ⟨B, j, none⟩ = some (.int .i64 (d j)) := fun _ hj => (arr_get h hj).1

set_option maxRecDepth 100000 in
set_option maxHeartbeats 1000000 in
theorem wideCmp_any (d e : Nat → Int) (w : World) (hd : ∀ i, 0 ≤ d i ∧ d i < 65536) (he : ∀ i, 0 ≤ e i ∧ e i < 65536) :
    Calls Tryz.prog 62 #[wideV d, wideV e] w fun x w' => x = .returned (.int .i64 (cmpN d e 9)) ∧ Below w.heap.size w w' := by
  have HD := Lib.hid hd
  have HE := Lib.hid he
  clear hd he
  unfold wideV
  go_enter Tryz.func62, Tryz.ntmps62
  unfold arr9
  go_wp2_with fail
  go_loopw [5] (fun v5 wr => CmI w d e v5 wr) (fun v5 _ => (intOf v5 + 1).toNat)
  case atStart =>
    refine ⟨9, by omega, rfl, rfl, ((Below.refl _ _).alloc (Nat.le_refl _) _).alloc (by simp) _, ?_, ?_⟩
    · exact (heap_alloc_old _ _ (by simp)).trans (heap_alloc_new w _)
    · have := heap_alloc_new (w.alloc (.cells (arr9 d) 126)) (.cells (arr9 e) 126)
      simp only [Re_size] at this
      exact this
  case round =>
    obtain ⟨k, hk, rfl, hc, hb, b0, b1⟩ := hrel
    have HC := Lib.hid hc
    have HB := Lib.hid hb
    have B0 := Lib.hid b0
    have B1 := Lib.hid b1
    rcases k with _ | j
    · clear hc hb b0 b1
      go_wp2_with fail
      go_ret
      exact ⟨ret_eq HC.out.symm, HB.out⟩
    · have c0 := arr_gets' b0 j (by omega)
      have c1 := arr_gets' b1 j (by omega)
      have hdj := HD.out j
      have hej := HE.out j
      have hcj : Hid (cmpN d e 9 = if d j = e j then cmpN d e j else sgn (d j - e j)) := Lib.hid hc
      have s0 : ((j + 1 : Nat) : Int) - 1 = (j : Int) := by omega
      have s1 : (j : Int) < 9 := by omega
      generalize d j = dj at *
      generalize e j = ej at *
      clear hc hb b0 b1 HC
      rw [s0]
      by_cases hq : dj = ej
      · subst hq
        go_wp2_with fail
        go_quiet (fail)
        go_wp2_with fail
        go_roundw
        case rel => exact ⟨j, by omega, by go_num, by rw [hcj.out, if_pos trivial], ⟨HB.out.os, HB.out.tape, HB.out.output, HB.out.size, HB.out.block⟩, B0.out, B1.out⟩
        case measure => simp [intOf] <;> omega
      · have hq1 : (dj != ej) = true := by simpa using hq
        have HQ : Hid (cmpN d e 9 = sgn (dj - ej)) := Lib.hid (by rw [hcj.out, if_neg hq])
        have s2 : IntKind.i64.wrap (dj - ej) = dj - ej := IntWalk.i64_in _ (by omega)
        clear hq hcj
        go_wp2_with fail
        go_quiet (fail)
        have c0' : (wr.drewN nq).cell? ⟨w.heap.size, j, none⟩ = some (.int .i64 dj) := c0
        have c1' : (wr.drewN nq).cell? ⟨w.heap.size + 1, j, none⟩ = some (.int .i64 ej) := c1
        have HBq : Hid (Below w.heap.size w (wr.drewN nq)) := Lib.hid ⟨HB.out.os, HB.out.tape, HB.out.output, HB.out.size, HB.out.block⟩
        generalize wr.drewN nq = wq at *
        clear c0 c1
        go_wp2_with fail
        go_quiet ((go_at_call 96; exact Calls.quiet_of_same (sign_any _ _)))
        go_wp2_with fail
        go_ret
        exact ⟨ret_eq HQ.out.symm, ⟨HBq.out.os, HBq.out.tape, HBq.out.output, HBq.out.size, HBq.out.block⟩⟩

/-- Are the digits the same? -/
def eqN (d e : Nat → Int) : Bool := (d 0 == e 0) && ((d 1 == e 1) && ((d 2 == e 2) && ((d 3 == e 3) && ((d 4 == e 4) && ((d 5 == e 5) && ((d 6 == e 6) && ((d 7 == e 7) && (d 8 == e 8))))))))
theorem run_eq_wide (d e : Nat → Int) (w : World) : (Op.equalIn 10000 126 (.agg #[.int .i64 (d 0), .int .i64 (d 1), .int .i64 (d 2), .int .i64 (d 3), .int .i64 (d 4), .int .i64 (d 5), .int .i64 (d 6), .int .i64 (d 7), .int .i64 (d 8)]) (.agg #[.int .i64 (e 0), .int .i64 (e 1), .int .i64 (e 2), .int .i64 (e 3), .int .i64 (e 4), .int .i64 (e 5), .int .i64 (e 6), .int .i64 (e 7), .int .i64 (e 8)])).run Tryz.prog w = .ok (eqN d e) w := by
  have u3 := Tryz.underlying3
  have hu : Tryz.prog.underlying 126 = some (.array 9 3) := by kernel_rfl
  obtain ⟨i0, hi, hz0, hz1, hz2⟩ := info_parts Tryz.infoIntW
  have hc : Tryz.prog.cellsOf 3 = 1 := by kernel_rfl
  rw [show (10000 : Nat) = 9999 + 1 from rfl, run_equalIn_array w 9999 _ _ hu hi, hc, show List.range 9 = [0, 1, 2, 3, 4, 5, 6, 7, 8] from rfl, show (9999 : Nat) = 9998 + 1 from rfl]
  have he : Tryz.prog.plainKey 3 = true := by kernel_rfl
  have step : ∀ (xs ys : Array Value) (j : Nat) (js : List Nat) (x y : Int), xs[j]? = some (.int .i64 x) → ys[j]? = some (.int .i64 y) → (Op.eqItems (9998 + 1) 3 1 xs ys (j :: js)).run Tryz.prog w = if (x == y) = true then (Op.eqItems (9998 + 1) 3 1 xs ys js).run Tryz.prog w else .ok false w := by
    intro xs ys j js x y hx hy
    have h1 := run_part_plain w he (off := j * 1) (by rw [Nat.mul_one]; exact hx)
    have h2 := run_part_plain w he (off := j * 1) (by rw [Nat.mul_one]; exact hy)
    have h3 := run_equalIn_int w 9998 3 .i64 .i64 x y u3
    simp only [Op.eqItems, Sem.run_bind, h1, h2, h3, Result.andThen_ok]
    cases x == y <;> simp
  rw [step _ _ 0 _ (d 0) (e 0) rfl rfl, step _ _ 1 _ (d 1) (e 1) rfl rfl, step _ _ 2 _ (d 2) (e 2) rfl rfl, step _ _ 3 _ (d 3) (e 3) rfl rfl, step _ _ 4 _ (d 4) (e 4) rfl rfl, step _ _ 5 _ (d 5) (e 5) rfl rfl, step _ _ 6 _ (d 6) (e 6) rfl rfl, step _ _ 7 _ (d 7) (e 7) rfl rfl, step _ _ 8 _ (d 8) (e 8) rfl rfl]
  unfold eqN
  generalize (d 0 == e 0) = c0
  generalize (d 1 == e 1) = c1
  generalize (d 2 == e 2) = c2
  generalize (d 3 == e 3) = c3
  generalize (d 4 == e 4) = c4
  generalize (d 5 == e 5) = c5
  generalize (d 6 == e 6) = c6
  generalize (d 7 == e 7) = c7
  generalize (d 8 == e 8) = c8
  cases c0
  · simp
  cases c1
  · simp
  cases c2
  · simp
  cases c3
  · simp
  cases c4
  · simp
  cases c5
  · simp
  cases c6
  · simp
  cases c7
  · simp
  cases c8 <;> simp [Op.eqItems]
theorem guard_wide : Tryz.prog.eqGuardType Tryz.prog.depth 126 = false := by kernel_rfl
end Go.Proofs.YtollmagiifkicaaGreatDoor
