/- Addresses as nine digits: wide.cmp, Order, equality. Prefixes: Order, PrefixOrder, PrefixFault of the reference. Prefixes: PrefixFault of the reference. -/
import Derived.Test.YtkbbmlkgaooaiaaGreatDoorWdB
import Derived.Test.YtkbbmlkgaooaiaaGreatDoorCmpI
import Derived.Deep.RegionHeld3
import Derived.ChangeKeysEq
import Derived.Laws.StructEq
import Derived.Test.YtkbbmlkgaooaiaaGreatDoorDrB
import Derived.Test.YtkbbmlkgaooaiaaGreatDoorFlt
namespace Go.Proofs.YtkbbmlkgaooaiaaGreatDoor
open Go.RowKit Go.Hw

def sgn (n : Int) : Int := if n < 0 then -1 else if 0 < n then 1 else 0
theorem sign_any (n : Int) (w : World) : Calls Tryz.prog 110 #[.int .i64 n] w fun e w' => e = .returned (.int .i64 (sgn n)) ∧ w' = w := by
  by_cases h1 : n < 0
  · have HF : Hid (sgn n = -1) := Lib.hid (by unfold sgn; rw [if_pos h1])
    go_enter Tryz.func110, Tryz.ntmps110
    go_wp2_with fail
    go_ret
    exact ⟨ret_eq HF.out.symm, rfl⟩
  · by_cases h2 : 0 < n
    · have HF : Hid (sgn n = 1) := Lib.hid (by unfold sgn; rw [if_neg h1, if_pos h2])
      go_enter Tryz.func110, Tryz.ntmps110
      go_wp2_with fail
      go_ret
      exact ⟨ret_eq HF.out.symm, rfl⟩
    · have HF : Hid (sgn n = 0) := Lib.hid (by unfold sgn; rw [if_neg h1, if_neg h2])
      go_enter Tryz.func110, Tryz.ntmps110
      go_wp2_with fail
      go_ret
      exact ⟨ret_eq HF.out.symm, rfl⟩
/-- The order of the first n digits; the last of them counts first. -/
def cmpN (d e : Nat → Int) : Nat → Int
  | 0 => 0
  | n + 1 => if d n = e n then cmpN d e n else sgn (d n - e n)
def CmI (w : World) (d e : Nat → Int) (v5 : Value) (wr : World) : Prop :=
  ∃ k : Nat, k ≤ 9 ∧ v5 = .int .i64 ((k : Int) - 1) ∧ cmpN d e 9 = cmpN d e k ∧ Below w.heap.size w wr ∧ wr.heap[w.heap.size]? = some (.cells (arr9 d) 111 (0, 0)) ∧ wr.heap[w.heap.size + 1]? = some (.cells (arr9 e) 111 (0, 0))
theorem Tryz.infoIntW : (Tryz.prog.info? 3).map (fun i => (i.zero, i.size, i.bytes)) = some (some (.int .i64 0), 1, 8) := by kernel_rfl
theorem arr_gets' {w : World} {B : Nat} {d : Nat → Int} {T : TypeId} (h : w.heap[B]? = some (.cells (arr9 d) T (0, 0))) : ∀ j, j < 9 → w.cell? ⟨B, j, none⟩ = some (.int .i64 (d j)) := fun _ hj => (arr_get h hj).1

set_option maxRecDepth 100000 in
set_option maxHeartbeats 1000000 in
theorem wideCmp_any (d e : Nat → Int) (w : World) (hd : ∀ i, 0 ≤ d i ∧ d i < 65536) (he : ∀ i, 0 ≤ e i ∧ e i < 65536) :
    Calls Tryz.prog 85 #[wideV d, wideV e] w fun x w' => x = .returned (.int .i64 (cmpN d e 9)) ∧ Below w.heap.size w w' := by
  have HD := Lib.hid hd
  have HE := Lib.hid he
  clear hd he
  unfold wideV
  go_enter Tryz.func85, Tryz.ntmps85
  unfold arr9
  go_wp2_with fail
  go_loopw [5] (fun v5 wr => CmI w d e v5 wr) (fun v5 _ => (intOf v5 + 1).toNat)
  case atStart =>
    refine ⟨9, by omega, rfl, rfl, ((Below.refl _ _).alloc (Nat.le_refl _) _).alloc (by simp) _, ?_, ?_⟩
    · exact (heap_alloc_old _ _ (by simp)).trans (heap_alloc_new w _)
    · have := heap_alloc_new (w.alloc (.cells (arr9 d) 111)) (.cells (arr9 e) 111)
      simp only [Re_size] at this
      exact this
  case round =>
    obtain ⟨k, hk, rfl, hc, hb, b0, b1⟩ := hrel
    have HC := Lib.hid hc
    have HB := Lib.hid hb
    have B0 := Lib.hid b0
    have B1 := Lib.hid b1
    rcases k with _ | j
    · clear hc hb b0 b1
      go_wp2_with fail
      go_ret
      exact ⟨ret_eq HC.out.symm, HB.out⟩
    · have c0 := arr_gets' b0 j (by omega)
      have c1 := arr_gets' b1 j (by omega)
      have hdj := HD.out j
      have hej := HE.out j
      have hcj : Hid (cmpN d e 9 = if d j = e j then cmpN d e j else sgn (d j - e j)) := Lib.hid hc
      have s0 : ((j + 1 : Nat) : Int) - 1 = (j : Int) := by omega
      have s1 : (j : Int) < 9 := by omega
      generalize d j = dj at *
      generalize e j = ej at *
      clear hc hb b0 b1 HC
      rw [s0]
      by_cases hq : dj = ej
      · subst hq
        go_wp2_with fail
        go_quiet (fail)
        go_wp2_with fail
        go_roundw
        case rel => exact ⟨j, by omega, by go_num, by rw [hcj.out, if_pos trivial], ⟨HB.out.os, HB.out.tape, HB.out.output, HB.out.size, HB.out.block⟩, B0.out, B1.out⟩
        case measure => simp [intOf] <;> omega
      · have hq1 : (dj != ej) = true := by simpa using hq
        have HQ : Hid (cmpN d e 9 = sgn (dj - ej)) := Lib.hid (by rw [hcj.out, if_neg hq])
        have s2 : IntKind.i64.wrap (dj - ej) = dj - ej := IntWalk.i64_in _ (by omega)
        clear hq hcj
        go_wp2_with fail
        go_quiet (fail)
        have c0' : (wr.drewN nq).cell? ⟨w.heap.size, j, none⟩ = some (.int .i64 dj) := c0
        have c1' : (wr.drewN nq).cell? ⟨w.heap.size + 1, j, none⟩ = some (.int .i64 ej) := c1
        have HBq : Hid (Below w.heap.size w (wr.drewN nq)) := Lib.hid ⟨HB.out.os, HB.out.tape, HB.out.output, HB.out.size, HB.out.block⟩
        generalize wr.drewN nq = wq at *
        clear c0 c1
        go_wp2_with fail
        go_quiet ((go_at_call 110; exact Calls.quiet_of_same (sign_any _ _)))
        go_wp2_with fail
        go_ret
        exact ⟨ret_eq HQ.out.symm, ⟨HBq.out.os, HBq.out.tape, HBq.out.output, HBq.out.size, HBq.out.block⟩⟩

/-- Are the digits the same? -/
def eqN (d e : Nat → Int) : Bool := (d 0 == e 0) && ((d 1 == e 1) && ((d 2 == e 2) && ((d 3 == e 3) && ((d 4 == e 4) && ((d 5 == e 5) && ((d 6 == e 6) && ((d 7 == e 7) && (d 8 == e 8))))))))
theorem run_eq_wide (d e : Nat → Int) (w : World) : (Op.equalIn 10000 111 (.agg #[.int .i64 (d 0), .int .i64 (d 1), .int .i64 (d 2), .int .i64 (d 3), .int .i64 (d 4), .int .i64 (d 5), .int .i64 (d 6), .int .i64 (d 7), .int .i64 (d 8)]) (.agg #[.int .i64 (e 0), .int .i64 (e 1), .int .i64 (e 2), .int .i64 (e 3), .int .i64 (e 4), .int .i64 (e 5), .int .i64 (e 6), .int .i64 (e 7), .int .i64 (e 8)])).run Tryz.prog w = .ok (eqN d e) w := by
  have u3 := Tryz.underlying3
  have hu : Tryz.prog.underlying 111 = some (.array 9 3) := by kernel_rfl
  obtain ⟨i0, hi, hz0, hz1, hz2⟩ := info_parts Tryz.infoIntW
  have hc : Tryz.prog.cellsOf 3 = 1 := by kernel_rfl
  rw [show (10000 : Nat) = 9999 + 1 from rfl, run_equalIn_array w 9999 _ _ hu hi, hc, show List.range 9 = [0, 1, 2, 3, 4, 5, 6, 7, 8] from rfl, show (9999 : Nat) = 9998 + 1 from rfl]
  have he : Tryz.prog.plainKey 3 = true := by kernel_rfl
  have step : ∀ (xs ys : Array Value) (j : Nat) (js : List Nat) (x y : Int), xs[j]? = some (.int .i64 x) → ys[j]? = some (.int .i64 y) → (Op.eqItems (9998 + 1) 3 1 xs ys (j :: js)).run Tryz.prog w = if (x == y) = true then (Op.eqItems (9998 + 1) 3 1 xs ys js).run Tryz.prog w else .ok false w := by
    intro xs ys j js x y hx hy
    have h1 := run_part_plain w he (off := j * 1) (by rw [Nat.mul_one]; exact hx)
    have h2 := run_part_plain w he (off := j * 1) (by rw [Nat.mul_one]; exact hy)
    have h3 := run_equalIn_int w 9998 3 .i64 .i64 x y u3
    simp only [Op.eqItems, Sem.run_bind, h1, h2, h3, Result.andThen_ok]
    cases x == y <;> simp
  rw [step _ _ 0 _ (d 0) (e 0) rfl rfl, step _ _ 1 _ (d 1) (e 1) rfl rfl, step _ _ 2 _ (d 2) (e 2) rfl rfl, step _ _ 3 _ (d 3) (e 3) rfl rfl, step _ _ 4 _ (d 4) (e 4) rfl rfl, step _ _ 5 _ (d 5) (e 5) rfl rfl, step _ _ 6 _ (d 6) (e 6) rfl rfl, step _ _ 7 _ (d 7) (e 7) rfl rfl, step _ _ 8 _ (d 8) (e 8) rfl rfl]
  unfold eqN
  generalize (d 0 == e 0) = c0
  generalize (d 1 == e 1) = c1
  generalize (d 2 == e 2) = c2
  generalize (d 3 == e 3) = c3
  generalize (d 4 == e 4) = c4
  generalize (d 5 == e 5) = c5
  generalize (d 6 == e 6) = c6
  generalize (d 7 == e 7) = c7
  generalize (d 8 == e 8) = c8
  cases c0
  · simp
  cases c1
  · simp
  cases c2
  · simp
  cases c3
  · simp
  cases c4
  · simp
  cases c5
  · simp
  cases c6
  · simp
  cases c7
  · simp
  cases c8 <;> simp [Op.eqItems]
theorem guard_wide : Tryz.prog.eqGuardType Tryz.prog.depth 111 = false := by kernel_rfl
end Go.Proofs.YtkbbmlkgaooaiaaGreatDoor

namespace Go.Proofs.YtkbbmlkgaooaiaaGreatDoor
open Go.RowKit Go.Hw

def ordA (x y : Rt) : Int := cmpN (wd x.six x.hi x.lo) (wd y.six y.hi y.lo) 9

set_option maxRecDepth 100000 in
set_option maxHeartbeats 1000000 in
theorem order_any (s : Bool) (h l : Int) (s' : Bool) (h' l' : Int) (w : World) (uh : U64 h) (ul : U64 l) (uh' : U64 h') (ul' : U64 l') :
    Calls Tryz.prog 58 #[.agg #[.bool s, .int .u64 h, .int .u64 l], .agg #[.bool s', .int .u64 h', .int .u64 l']] w fun e w' => e = .returned (.int .i64 (cmpN (wd s h l) (wd s' h' l') 9)) ∧ Below w.heap.size w w' := by
  unfold U64 at uh ul uh' ul'
  have b0 : ((w.alloc (addrBox s h l)).alloc (addrBox s' h' l')).heap[w.heap.size]? = some (addrBox s h l) := (heap_alloc_old _ _ (by simp)).trans (heap_alloc_new w _)
  have b1 : ((w.alloc (addrBox s h l)).alloc (addrBox s' h' l')).heap[w.heap.size + 1]? = some (addrBox s' h' l') := by
    have := heap_alloc_new (w.alloc (addrBox s h l)) (addrBox s' h' l')
    simp only [Re_size] at this
    exact this
  obtain ⟨x0, x1, x2, -⟩ := res3 b0
  obtain ⟨x3, x4, x5, -⟩ := res3 b1
  have HB := Lib.hid (((Below.refl w.heap.size w).alloc (Nat.le_refl _) (addrBox s h l)).alloc (by simp) (addrBox s' h' l'))
  have hsz : w.heap.size + 2 ≤ ((w.alloc (addrBox s h l)).alloc (addrBox s' h' l')).heap.size := by simp
  unfold addrBox at x0 x1 x2 x3 x4 x5 hsz
  clear b0 b1
  go_enter Tryz.func58, Tryz.ntmps58
  go_wp2_with fail
  generalize hW : World.alloc _ _ = W at x0 x1 x2 x3 x4 x5 hsz ⊢
  have HBW : Hid (Below w.heap.size w W) := Lib.hid (by rw [← hW]; exact HB.out)
  clear hW HB
  go_region_held3 (fun w' => w'.cell? ⟨w.heap.size, 0, none⟩ = some (.bool s) ∧ w'.cell? ⟨w.heap.size, 1, none⟩ = some (.int .u64 h) ∧ w'.cell? ⟨w.heap.size, 2, none⟩ = some (.int .u64 l) ∧ w'.cell? ⟨w.heap.size + 1, 0, none⟩ = some (.bool s') ∧ w'.cell? ⟨w.heap.size + 1, 1, none⟩ = some (.int .u64 h') ∧ w'.cell? ⟨w.heap.size + 1, 2, none⟩ = some (.int .u64 l'))
    (first | exact ⟨x0, x1, x2, x3, x4, x5⟩ | ((repeat' apply And.intro) <;> (first | (go_simp; done) | with_reducible assumption)))
    (first
      | (go_at_call 56; refine (of_any _ _ _ _ (by assumption) (by assumption)).mono ?_; rintro e W1 ⟨rfl, hb1⟩; have x0 : W1.cell? ⟨w.heap.size, 0, none⟩ = some (.bool s) := (hb1.cell (p := ⟨w.heap.size, 0, none⟩) (by (try simp); omega)).trans (by first | assumption | (go_simp; done)); have x1 : W1.cell? ⟨w.heap.size, 1, none⟩ = some (.int .u64 h) := (hb1.cell (p := ⟨w.heap.size, 1, none⟩) (by (try simp); omega)).trans (by first | assumption | (go_simp; done)); have x2 : W1.cell? ⟨w.heap.size, 2, none⟩ = some (.int .u64 l) := (hb1.cell (p := ⟨w.heap.size, 2, none⟩) (by (try simp); omega)).trans (by first | assumption | (go_simp; done)); have x3 : W1.cell? ⟨w.heap.size + 1, 0, none⟩ = some (.bool s') := (hb1.cell (p := ⟨w.heap.size + 1, 0, none⟩) (by (try simp); omega)).trans (by first | assumption | (go_simp; done)); have x4 : W1.cell? ⟨w.heap.size + 1, 1, none⟩ = some (.int .u64 h') := (hb1.cell (p := ⟨w.heap.size + 1, 1, none⟩) (by (try simp); omega)).trans (by first | assumption | (go_simp; done)); have x5 : W1.cell? ⟨w.heap.size + 1, 2, none⟩ = some (.int .u64 l') := (hb1.cell (p := ⟨w.heap.size + 1, 2, none⟩) (by (try simp); omega)).trans (by first | assumption | (go_simp; done)); have hsz : w.heap.size + 2 ≤ W1.heap.size := (by have := hb1.size; (try simp at this); omega); have HBW : Hid (Below w.heap.size w W1) := (by first | exact Lib.hid (HBW.out.trans (hb1.mono (by omega))) | exact Lib.hid (HBW.out.drew.trans (hb1.mono (show w.heap.size ≤ W.heap.size by omega)))))
      | (go_at_call 85; refine (wideCmp_any _ _ _ (wd_bd _ _ _) (wd_bd _ _ _)).mono ?_; rintro e W1 ⟨rfl, hb1⟩; have x0 : W1.cell? ⟨w.heap.size, 0, none⟩ = some (.bool s) := (hb1.cell (p := ⟨w.heap.size, 0, none⟩) (by (try simp); omega)).trans (by first | assumption | (go_simp; done)); have x1 : W1.cell? ⟨w.heap.size, 1, none⟩ = some (.int .u64 h) := (hb1.cell (p := ⟨w.heap.size, 1, none⟩) (by (try simp); omega)).trans (by first | assumption | (go_simp; done)); have x2 : W1.cell? ⟨w.heap.size, 2, none⟩ = some (.int .u64 l) := (hb1.cell (p := ⟨w.heap.size, 2, none⟩) (by (try simp); omega)).trans (by first | assumption | (go_simp; done)); have x3 : W1.cell? ⟨w.heap.size + 1, 0, none⟩ = some (.bool s') := (hb1.cell (p := ⟨w.heap.size + 1, 0, none⟩) (by (try simp); omega)).trans (by first | assumption | (go_simp; done)); have x4 : W1.cell? ⟨w.heap.size + 1, 1, none⟩ = some (.int .u64 h') := (hb1.cell (p := ⟨w.heap.size + 1, 1, none⟩) (by (try simp); omega)).trans (by first | assumption | (go_simp; done)); have x5 : W1.cell? ⟨w.heap.size + 1, 2, none⟩ = some (.int .u64 l') := (hb1.cell (p := ⟨w.heap.size + 1, 2, none⟩) (by (try simp); omega)).trans (by first | assumption | (go_simp; done)); have HBW : Hid (Below w.heap.size w W1) := (by first | exact Lib.hid (HBW.out.trans (hb1.mono (by omega))) | exact Lib.hid (HBW.out.drew.trans (hb1.mono (show w.heap.size ≤ W.heap.size by omega))))))
  go_wp2_with fail
  go_ret
  exact ⟨rfl, HBW.out⟩
/-! PrefixOrder -/
set_option maxRecDepth 100000 in
set_option maxHeartbeats 1000000 in
theorem prefixOrder_any (s : Bool) (h l b : Int) (s' : Bool) (h' l' b' : Int) (w : World) (uh : U64 h) (ul : U64 l) (uh' : U64 h') (ul' : U64 l') :
    Calls Tryz.prog 30 #[.agg #[.bool s, .int .u64 h, .int .u64 l, .int .i64 b], .agg #[.bool s', .int .u64 h', .int .u64 l', .int .i64 b']] w fun e w' => e = .returned (.int .i64 (orOf [cmpN (wd s h l) (wd s' h' l') 9, cmpI b b'])) ∧ Below w.heap.size w w' := by
  have b0 : ((w.alloc (pfBox s h l b)).alloc (pfBox s' h' l' b')).heap[w.heap.size]? = some (pfBox s h l b) := (heap_alloc_old _ _ (by simp)).trans (heap_alloc_new w _)
  have b1 : ((w.alloc (pfBox s h l b)).alloc (pfBox s' h' l' b')).heap[w.heap.size + 1]? = some (pfBox s' h' l' b') := by
    have := heap_alloc_new (w.alloc (pfBox s h l b)) (pfBox s' h' l' b')
    simp only [Re_size] at this
    exact this
  obtain ⟨⟨x0, x1, x2, x3⟩, -⟩ := res4 b0
  obtain ⟨⟨x4, x5, x6, x7⟩, -⟩ := res4 b1
  have HB := Lib.hid (((Below.refl w.heap.size w).alloc (Nat.le_refl _) (pfBox s h l b)).alloc (by simp) (pfBox s' h' l' b'))
  have hsz : w.heap.size + 2 ≤ ((w.alloc (pfBox s h l b)).alloc (pfBox s' h' l' b')).heap.size := by simp
  unfold pfBox at x0 x1 x2 x3 x4 x5 x6 x7 hsz
  clear b0 b1
  go_enter Tryz.func30, Tryz.ntmps30
  go_wp2_with fail
  generalize hW : World.alloc _ _ = W at x0 x1 x2 x3 x4 x5 x6 x7 hsz ⊢
  have HBW : Hid (Below w.heap.size w W) := Lib.hid (by rw [← hW]; exact HB.out)
  clear hW HB
  go_region_held3 (fun w' => w'.cell? ⟨w.heap.size, 0, none⟩ = some (.bool s) ∧ w'.cell? ⟨w.heap.size, 1, none⟩ = some (.int .u64 h) ∧ w'.cell? ⟨w.heap.size, 2, none⟩ = some (.int .u64 l) ∧ w'.cell? ⟨w.heap.size, 3, none⟩ = some (.int .i64 b) ∧ w'.cell? ⟨w.heap.size + 1, 0, none⟩ = some (.bool s') ∧ w'.cell? ⟨w.heap.size + 1, 1, none⟩ = some (.int .u64 h') ∧ w'.cell? ⟨w.heap.size + 1, 2, none⟩ = some (.int .u64 l') ∧ w'.cell? ⟨w.heap.size + 1, 3, none⟩ = some (.int .i64 b'))
    (first | exact ⟨x0, x1, x2, x3, x4, x5, x6, x7⟩ | ((repeat' apply And.intro) <;> (first | (go_simp; done) | with_reducible assumption)))
    (first
      | (go_at_call 58; refine (order_any _ _ _ _ _ _ _ uh ul uh' ul').mono ?_; rintro e W1 ⟨rfl, hb1⟩; have x0 : W1.cell? ⟨w.heap.size, 0, none⟩ = some (.bool s) := (hb1.cell (p := ⟨w.heap.size, 0, none⟩) (by (try simp); omega)).trans (by first | assumption | (go_simp; done)); have x1 : W1.cell? ⟨w.heap.size, 1, none⟩ = some (.int .u64 h) := (hb1.cell (p := ⟨w.heap.size, 1, none⟩) (by (try simp); omega)).trans (by first | assumption | (go_simp; done)); have x2 : W1.cell? ⟨w.heap.size, 2, none⟩ = some (.int .u64 l) := (hb1.cell (p := ⟨w.heap.size, 2, none⟩) (by (try simp); omega)).trans (by first | assumption | (go_simp; done)); have x3 : W1.cell? ⟨w.heap.size, 3, none⟩ = some (.int .i64 b) := (hb1.cell (p := ⟨w.heap.size, 3, none⟩) (by (try simp); omega)).trans (by first | assumption | (go_simp; done)); have x4 : W1.cell? ⟨w.heap.size + 1, 0, none⟩ = some (.bool s') := (hb1.cell (p := ⟨w.heap.size + 1, 0, none⟩) (by (try simp); omega)).trans (by first | assumption | (go_simp; done)); have x5 : W1.cell? ⟨w.heap.size + 1, 1, none⟩ = some (.int .u64 h') := (hb1.cell (p := ⟨w.heap.size + 1, 1, none⟩) (by (try simp); omega)).trans (by first | assumption | (go_simp; done)); have x6 : W1.cell? ⟨w.heap.size + 1, 2, none⟩ = some (.int .u64 l') := (hb1.cell (p := ⟨w.heap.size + 1, 2, none⟩) (by (try simp); omega)).trans (by first | assumption | (go_simp; done)); have x7 : W1.cell? ⟨w.heap.size + 1, 3, none⟩ = some (.int .i64 b') := (hb1.cell (p := ⟨w.heap.size + 1, 3, none⟩) (by (try simp); omega)).trans (by first | assumption | (go_simp; done)); have hsz : w.heap.size + 2 ≤ W1.heap.size := (by have := hb1.size; (try simp at this); omega); have hl0 : w.heap.size < W1.heap.size := (by omega); have hl1 : w.heap.size + 1 < W1.heap.size := (by omega); have HBW : Hid (Below w.heap.size w W1) := (by first | exact Lib.hid (HBW.out.trans (hb1.mono (by omega))) | exact Lib.hid (HBW.out.drew.trans (hb1.mono (show w.heap.size ≤ W.heap.size by omega)))))
      | (go_at_call 33; refine (cmpI_any _ _ _).mono ?_; rintro e W2 ⟨rfl, rfl⟩)
      | (go_at_call 29; refine (or_any W1.heap.size [cmpN (wd s h l) (wd s' h' l') 9, cmpI b b'] _ (by exact heap_alloc_new W1 _) 2 2 rfl (by simp)).mono ?_; rintro e W2 ⟨rfl, rfl⟩))
  go_wp2_with fail
  go_ret
  exact ⟨rfl, HBW.out.alloc HBW.out.size _⟩
end Go.Proofs.YtkbbmlkgaooaiaaGreatDoor

namespace Go.Proofs.YtkbbmlkgaooaiaaGreatDoor
open Go.RowKit Go.Hw

/-- What is wrong with a prefix. -/
def pfCode (s : Bool) (h l b : Int) : Int :=
  if addrCode s h l ≠ 0 then addrCode s h l
  else if ¬ (0 ≤ b ∧ b ≤ lenA s) then 1
  else if eqN (clrd (wd s h l) (lenA s - b).toNat) (wd s h l) = false then 3
  else 0

set_option maxRecDepth 100000 in
set_option maxHeartbeats 1000000 in
theorem prefixFault_any (s : Bool) (h l b : Int) (w : World) (uh : U64 h) (ul : U64 l) :
    Calls Tryz.prog 26 #[.agg #[.bool s, .int .u64 h, .int .u64 l, .int .i64 b]] w fun e w' => e = .returned (.int .i64 (pfCode s h l b)) ∧ Below w.heap.size w w' := by
  have b0 : (w.alloc (pfBox s h l b)).heap[w.heap.size]? = some (pfBox s h l b) := heap_alloc_new w _
  obtain ⟨⟨x0, x1, x2, x3⟩, -⟩ := res4 b0
  have HB := Lib.hid ((Below.refl w.heap.size w).alloc (Nat.le_refl _) (pfBox s h l b))
  have hsz : w.heap.size + 1 ≤ (w.alloc (pfBox s h l b)).heap.size := by simp
  unfold pfBox at x0 x1 x2 x3 hsz
  have hcode : Hid (pfCode s h l b = if addrCode s h l ≠ 0 then addrCode s h l else if ¬ (0 ≤ b ∧ b ≤ lenA s) then 1 else if eqN (clrd (wd s h l) (lenA s - b).toNat) (wd s h l) = false then 3 else 0) := Lib.hid rfl
  have hu := uh.1
  clear b0
  go_enter Tryz.func26, Tryz.ntmps26
  go_wp2_with fail
  generalize hW : World.alloc _ _ = W at x0 x1 x2 x3 hsz ⊢
  have HBW : Hid (Below w.heap.size w W) := Lib.hid (by rw [← hW]; exact HB.out)
  clear hW HB
  refine (addrFault_any s h l _ hu).mono ?_
  rintro e W1 ⟨rfl, hb1⟩
  have x0 : W1.cell? ⟨w.heap.size, 0, none⟩ = some (.bool s) := (hb1.cell (p := ⟨w.heap.size, 0, none⟩) (by (try simp); omega)).trans (by first | assumption | (go_simp; done)); have x1 : W1.cell? ⟨w.heap.size, 1, none⟩ = some (.int .u64 h) := (hb1.cell (p := ⟨w.heap.size, 1, none⟩) (by (try simp); omega)).trans (by first | assumption | (go_simp; done)); have x2 : W1.cell? ⟨w.heap.size, 2, none⟩ = some (.int .u64 l) := (hb1.cell (p := ⟨w.heap.size, 2, none⟩) (by (try simp); omega)).trans (by first | assumption | (go_simp; done)); have x3 : W1.cell? ⟨w.heap.size, 3, none⟩ = some (.int .i64 b) := (hb1.cell (p := ⟨w.heap.size, 3, none⟩) (by (try simp); omega)).trans (by first | assumption | (go_simp; done))
  have hsz : w.heap.size + 1 ≤ W1.heap.size := (by have := hb1.size; (try simp at this); omega); have hl0 : w.heap.size < W1.heap.size := (by omega)
  have HBW : Hid (Below w.heap.size w W1) := (by first | exact Lib.hid (HBW.out.trans (hb1.mono (by omega))) | exact Lib.hid (HBW.out.drew.trans (hb1.mono (show w.heap.size ≤ W.heap.size by omega))))
  clear hb1 hu
  by_cases hc : addrCode s h l = 0
  rotate_left
  · have hcc : (addrCode s h l != 0) = true := by simpa using hc
    have HF : Hid (pfCode s h l b = addrCode s h l) := Lib.hid (by rw [hcode.out, if_pos hc])
    clear hc hcode
    generalize addrCode s h l = ac at hcc HF ⊢
    go_wp2_with fail
    go_ret
    exact ⟨ret_eq HF.out.symm, HBW.out⟩
  have HC := Lib.hid hc
  rw [hc]
  clear hc
  have hq := run_eq_wide (clrd (wd s h l) (lenA s - b).toNat) (wd s h l)
  have hgd := guard_wide
  by_cases hr : 0 ≤ b ∧ b ≤ lenA s
  rotate_left
  · have hin : (decide (0 ≤ b) && decide (b ≤ lenA s)) = false := by
      cases hd : (decide (0 ≤ b) && decide (b ≤ lenA s))
      · rfl
      · exact absurd (by simpa using hd) hr
    have HF : Hid (pfCode s h l b = 1) := Lib.hid (by rw [hcode.out, if_neg (by rw [HC.out]; decide), if_pos hr])
    have HIN := Lib.hid hin
    clear hr hin hq hgd hcode
    go_wp2_with fail
    go_region_held3 (fun w' => w'.cell? ⟨w.heap.size, 0, none⟩ = some (.bool s) ∧ w'.cell? ⟨w.heap.size, 1, none⟩ = some (.int .u64 h) ∧ w'.cell? ⟨w.heap.size, 2, none⟩ = some (.int .u64 l) ∧ w'.cell? ⟨w.heap.size, 3, none⟩ = some (.int .i64 b))
      (first | exact ⟨x0, x1, x2, x3⟩ | ((repeat' apply And.intro) <;> (first | (go_simp; done) | with_reducible assumption)))
      (first
        | (go_at_call 54; refine (refLength_any _ _ _ _).mono ?_; rintro e W2 ⟨rfl, hb2⟩; have x0 : W2.cell? ⟨w.heap.size, 0, none⟩ = some (.bool s) := (hb2.cell (p := ⟨w.heap.size, 0, none⟩) (by (try simp); omega)).trans (by first | assumption | (go_simp; done)); have x1 : W2.cell? ⟨w.heap.size, 1, none⟩ = some (.int .u64 h) := (hb2.cell (p := ⟨w.heap.size, 1, none⟩) (by (try simp); omega)).trans (by first | assumption | (go_simp; done)); have x2 : W2.cell? ⟨w.heap.size, 2, none⟩ = some (.int .u64 l) := (hb2.cell (p := ⟨w.heap.size, 2, none⟩) (by (try simp); omega)).trans (by first | assumption | (go_simp; done)); have x3 : W2.cell? ⟨w.heap.size, 3, none⟩ = some (.int .i64 b) := (hb2.cell (p := ⟨w.heap.size, 3, none⟩) (by (try simp); omega)).trans (by first | assumption | (go_simp; done)); have hsz : w.heap.size + 1 ≤ W2.heap.size := (by have := hb2.size; (try simp at this); omega); have hl0 : w.heap.size < W2.heap.size := (by omega); have HBW : Hid (Below w.heap.size w W2) := (by first | exact Lib.hid (HBW.out.trans (hb2.mono (by omega))) | exact Lib.hid (HBW.out.drew.trans (hb2.mono (show w.heap.size ≤ W1.heap.size by omega)))))
        | (go_at_call 53; refine (in2_any _ _ _ _).mono ?_; rintro e W9 ⟨rfl, rfl⟩; rw [HIN.out]))
    go_wp2_with fail
    go_ret
    exact ⟨ret_eq HF.out.symm, HBW.out⟩
  have hin : (decide (0 ≤ b) && decide (b ≤ lenA s)) = true := by simp [hr.1, hr.2]
  have HIN := Lib.hid hin
  obtain ⟨m, hm⟩ := Int.eq_ofNat_of_zero_le (show 0 ≤ lenA s - b by omega)
  have hm2 : m ≤ 128 := by have : lenA s ≤ 128 := (by unfold lenA; split <;> omega); omega
  have hmm : (lenA s - b).toNat = m := by omega
  rw [hmm] at hq
  have HM := Lib.hid hm
  have HMM := Lib.hid hmm
  clear hin hm hmm
  go_wp2_with fail
  go_region_held3 (fun w' => w'.cell? ⟨w.heap.size, 0, none⟩ = some (.bool s) ∧ w'.cell? ⟨w.heap.size, 1, none⟩ = some (.int .u64 h) ∧ w'.cell? ⟨w.heap.size, 2, none⟩ = some (.int .u64 l) ∧ w'.cell? ⟨w.heap.size, 3, none⟩ = some (.int .i64 b))
    (first | exact ⟨x0, x1, x2, x3⟩ | ((repeat' apply And.intro) <;> (first | (go_simp; done) | with_reducible assumption)))
    (first
      | (go_at_call 54; refine (refLength_any _ _ _ _).mono ?_; rintro e W2 ⟨rfl, hb2⟩; have x0 : W2.cell? ⟨w.heap.size, 0, none⟩ = some (.bool s) := (hb2.cell (p := ⟨w.heap.size, 0, none⟩) (by (try simp); omega)).trans (by first | assumption | (go_simp; done)); have x1 : W2.cell? ⟨w.heap.size, 1, none⟩ = some (.int .u64 h) := (hb2.cell (p := ⟨w.heap.size, 1, none⟩) (by (try simp); omega)).trans (by first | assumption | (go_simp; done)); have x2 : W2.cell? ⟨w.heap.size, 2, none⟩ = some (.int .u64 l) := (hb2.cell (p := ⟨w.heap.size, 2, none⟩) (by (try simp); omega)).trans (by first | assumption | (go_simp; done)); have x3 : W2.cell? ⟨w.heap.size, 3, none⟩ = some (.int .i64 b) := (hb2.cell (p := ⟨w.heap.size, 3, none⟩) (by (try simp); omega)).trans (by first | assumption | (go_simp; done)); have hsz : w.heap.size + 1 ≤ W2.heap.size := (by have := hb2.size; (try simp at this); omega); have hl0 : w.heap.size < W2.heap.size := (by omega); have HBW : Hid (Below w.heap.size w W2) := (by first | exact Lib.hid (HBW.out.trans (hb2.mono (by omega))) | exact Lib.hid (HBW.out.drew.trans (hb2.mono (show w.heap.size ≤ W1.heap.size by omega)))))
      | (go_at_call 53; refine (in2_any _ _ _ _).mono ?_; rintro e W9 ⟨rfl, rfl⟩; rw [HIN.out]))
  cases hx : eqN (clrd (wd s h l) m) (wd s h l)
  · have HF : Hid (pfCode s h l b = 3) := Lib.hid (by rw [hcode.out, if_neg (by rw [HC.out]; decide), if_neg (fun e => e hr), HMM.out, if_pos hx])
    rw [hx] at hq
    clear hcode hx
    go_wp2_with fail
    go_region_held3 (fun w' => w'.cell? ⟨w.heap.size, 0, none⟩ = some (.bool s) ∧ w'.cell? ⟨w.heap.size, 1, none⟩ = some (.int .u64 h) ∧ w'.cell? ⟨w.heap.size, 2, none⟩ = some (.int .u64 l) ∧ w'.cell? ⟨w.heap.size, 3, none⟩ = some (.int .i64 b))
      (first | exact ⟨x0, x1, x2, x3⟩ | ((repeat' apply And.intro) <;> (first | (go_simp; done) | with_reducible assumption)))
      (first
        | (go_at_call 55; refine (firstOf_any s h l b _ uh ul m HM.out hm2 hr.1).mono ?_; rintro e W3 ⟨rfl, hb3⟩; unfold wideV arr9; have x0 : W3.cell? ⟨w.heap.size, 0, none⟩ = some (.bool s) := (hb3.cell (p := ⟨w.heap.size, 0, none⟩) (by (try simp); omega)).trans (by first | assumption | (go_simp; done)); have x1 : W3.cell? ⟨w.heap.size, 1, none⟩ = some (.int .u64 h) := (hb3.cell (p := ⟨w.heap.size, 1, none⟩) (by (try simp); omega)).trans (by first | assumption | (go_simp; done)); have x2 : W3.cell? ⟨w.heap.size, 2, none⟩ = some (.int .u64 l) := (hb3.cell (p := ⟨w.heap.size, 2, none⟩) (by (try simp); omega)).trans (by first | assumption | (go_simp; done)); have x3 : W3.cell? ⟨w.heap.size, 3, none⟩ = some (.int .i64 b) := (hb3.cell (p := ⟨w.heap.size, 3, none⟩) (by (try simp); omega)).trans (by first | assumption | (go_simp; done)); have hsz : w.heap.size + 1 ≤ W3.heap.size := (by have := hb3.size; (try simp at this); omega); have hl0 : w.heap.size < W3.heap.size := (by omega); have HBW : Hid (Below w.heap.size w W3) := (by first | exact Lib.hid (HBW.out.trans (hb3.mono (by omega))) | exact Lib.hid (HBW.out.drew.trans (hb3.mono (show w.heap.size ≤ W2.heap.size by omega)))))
        | (go_at_call 56; refine (of_any s h l _ uh ul).mono ?_; rintro e W3 ⟨rfl, hb3⟩; unfold wideV arr9; have x0 : W3.cell? ⟨w.heap.size, 0, none⟩ = some (.bool s) := (hb3.cell (p := ⟨w.heap.size, 0, none⟩) (by (try simp); omega)).trans (by first | assumption | (go_simp; done)); have x1 : W3.cell? ⟨w.heap.size, 1, none⟩ = some (.int .u64 h) := (hb3.cell (p := ⟨w.heap.size, 1, none⟩) (by (try simp); omega)).trans (by first | assumption | (go_simp; done)); have x2 : W3.cell? ⟨w.heap.size, 2, none⟩ = some (.int .u64 l) := (hb3.cell (p := ⟨w.heap.size, 2, none⟩) (by (try simp); omega)).trans (by first | assumption | (go_simp; done)); have x3 : W3.cell? ⟨w.heap.size, 3, none⟩ = some (.int .i64 b) := (hb3.cell (p := ⟨w.heap.size, 3, none⟩) (by (try simp); omega)).trans (by first | assumption | (go_simp; done)); have hsz : w.heap.size + 1 ≤ W3.heap.size := (by have := hb3.size; (try simp at this); omega); have hl0 : w.heap.size < W3.heap.size := (by omega); have HBW : Hid (Below w.heap.size w W3) := (by first | exact Lib.hid (HBW.out.trans (hb3.mono (by omega))) | exact Lib.hid (HBW.out.drew.trans (hb3.mono (show w.heap.size ≤ W2.heap.size by omega))))))
    go_wp2_with fail
    go_ret
    exact ⟨ret_eq HF.out.symm, HBW.out⟩
  · have HF : Hid (pfCode s h l b = 0) := Lib.hid (by rw [hcode.out, if_neg (by rw [HC.out]; decide), if_neg (fun e => e hr), HMM.out, if_neg (by rw [hx]; decide)])
    rw [hx] at hq
    clear hcode hx
    go_wp2_with fail
    go_region_held3 (fun w' => w'.cell? ⟨w.heap.size, 0, none⟩ = some (.bool s) ∧ w'.cell? ⟨w.heap.size, 1, none⟩ = some (.int .u64 h) ∧ w'.cell? ⟨w.heap.size, 2, none⟩ = some (.int .u64 l) ∧ w'.cell? ⟨w.heap.size, 3, none⟩ = some (.int .i64 b))
      (first | exact ⟨x0, x1, x2, x3⟩ | ((repeat' apply And.intro) <;> (first | (go_simp; done) | with_reducible assumption)))
      (first
        | (go_at_call 55; refine (firstOf_any s h l b _ uh ul m HM.out hm2 hr.1).mono ?_; rintro e W3 ⟨rfl, hb3⟩; unfold wideV arr9; have x0 : W3.cell? ⟨w.heap.size, 0, none⟩ = some (.bool s) := (hb3.cell (p := ⟨w.heap.size, 0, none⟩) (by (try simp); omega)).trans (by first | assumption | (go_simp; done)); have x1 : W3.cell? ⟨w.heap.size, 1, none⟩ = some (.int .u64 h) := (hb3.cell (p := ⟨w.heap.size, 1, none⟩) (by (try simp); omega)).trans (by first | assumption | (go_simp; done)); have x2 : W3.cell? ⟨w.heap.size, 2, none⟩ = some (.int .u64 l) := (hb3.cell (p := ⟨w.heap.size, 2, none⟩) (by (try simp); omega)).trans (by first | assumption | (go_simp; done)); have x3 : W3.cell? ⟨w.heap.size, 3, none⟩ = some (.int .i64 b) := (hb3.cell (p := ⟨w.heap.size, 3, none⟩) (by (try simp); omega)).trans (by first | assumption | (go_simp; done)); have hsz : w.heap.size + 1 ≤ W3.heap.size := (by have := hb3.size; (try simp at this); omega); have hl0 : w.heap.size < W3.heap.size := (by omega); have HBW : Hid (Below w.heap.size w W3) := (by first | exact Lib.hid (HBW.out.trans (hb3.mono (by omega))) | exact Lib.hid (HBW.out.drew.trans (hb3.mono (show w.heap.size ≤ W2.heap.size by omega)))))
        | (go_at_call 56; refine (of_any s h l _ uh ul).mono ?_; rintro e W3 ⟨rfl, hb3⟩; unfold wideV arr9; have x0 : W3.cell? ⟨w.heap.size, 0, none⟩ = some (.bool s) := (hb3.cell (p := ⟨w.heap.size, 0, none⟩) (by (try simp); omega)).trans (by first | assumption | (go_simp; done)); have x1 : W3.cell? ⟨w.heap.size, 1, none⟩ = some (.int .u64 h) := (hb3.cell (p := ⟨w.heap.size, 1, none⟩) (by (try simp); omega)).trans (by first | assumption | (go_simp; done)); have x2 : W3.cell? ⟨w.heap.size, 2, none⟩ = some (.int .u64 l) := (hb3.cell (p := ⟨w.heap.size, 2, none⟩) (by (try simp); omega)).trans (by first | assumption | (go_simp; done)); have x3 : W3.cell? ⟨w.heap.size, 3, none⟩ = some (.int .i64 b) := (hb3.cell (p := ⟨w.heap.size, 3, none⟩) (by (try simp); omega)).trans (by first | assumption | (go_simp; done)); have hsz : w.heap.size + 1 ≤ W3.heap.size := (by have := hb3.size; (try simp at this); omega); have hl0 : w.heap.size < W3.heap.size := (by omega); have HBW : Hid (Below w.heap.size w W3) := (by first | exact Lib.hid (HBW.out.trans (hb3.mono (by omega))) | exact Lib.hid (HBW.out.drew.trans (hb3.mono (show w.heap.size ≤ W2.heap.size by omega))))))
    go_wp2_with fail
    go_ret
    exact ⟨ret_eq HF.out.symm, HBW.out⟩
end Go.Proofs.YtkbbmlkgaooaiaaGreatDoor
