/- laneref2: wide.cmp, Order. -/
import Derived.Test.YtpbcbgoenoolfaaGreatDoorSpB
import Derived.Laws.BitsAllLaws
import Derived.Laws.ShiftsVarLaws
import Derived.Deep.RegionHeld3
import Derived.Deep.RegionLaw
import Derived.Deep.Cut
import Derived.Deep.CutRange
import Derived.OwnWalk
import Derived.ChangeKeysEq
import Derived.Laws.StructEq
namespace Go.Proofs.YtpbcbgoenoolfaaGreatDoor
open Go.RowKit Go.Hw
def sgn (n : Int) : Int := if n < 0 then -1 else if 0 < n then 1 else 0
theorem sign_any (n : Int) (w : World) : Calls Tryz.prog 68 #[.int .i64 n] w fun e w' => e = .returned (.int .i64 (sgn n)) ∧ w' = w := by
  by_cases h1 : n < 0
  · have HF : Hid (sgn n = -1) := Lib.hid (by unfold sgn; rw [if_pos h1])
    go_enter Tryz.func68, Tryz.ntmps68
    go_wp2_with fail
    go_ret
    exact ⟨ret_eq HF.out.symm, rfl⟩
  · by_cases h2 : 0 < n
    · have HF : Hid (sgn n = 1) := Lib.hid (by unfold sgn; rw [if_neg h1, if_pos h2])
      go_enter Tryz.func68, Tryz.ntmps68
      go_wp2_with fail
      go_ret
      exact ⟨ret_eq HF.out.symm, rfl⟩
    · have HF : Hid (sgn n = 0) := Lib.hid (by unfold sgn; rw [if_neg h1, if_neg h2])
      go_enter Tryz.func68, Tryz.ntmps68
      go_wp2_with fail
      go_ret
      exact ⟨ret_eq HF.out.symm, rfl⟩
/-- The order of the first n digits; the last of them counts first. -/
def cmpN (d e : Nat → Int) : Nat → Int
  | 0 => 0
  | n + 1 => if d n = e n then cmpN d e n else sgn (d n - e n)
def CmI (w : World) (d e : Nat → Int) (v5 : Value) (wr : World) : Prop :=
  ∃ k : Nat, k ≤ 9 ∧ v5 = .int .i64 ((k : Int) - 1) ∧ cmpN d e 9 = cmpN d e k ∧ Below w.heap.size w wr ∧ wr.heap[w.heap.size]? = some (.cells (arr9 d) 95 (0, 0)) ∧ wr.heap[w.heap.size + 1]? = some (.cells (arr9 e) 95 (0, 0))
theorem Tryz.infoIntW : (Tryz.prog.info? 3).map (fun i => (i.zero, i.size, i.bytes)) = some (some (.int .i64 0), 1, 8) := by kernel_rfl
theorem arr_gets' {w : World} {B : Nat} {d : Nat → Int} {T : TypeId} (h : w.heap[B]? = some (.cells (arr9 d) T (0, 0))) : ∀ j, j < 9 → w.cell? ⟨B, j, none⟩ = some (.int .i64 (d j)) := fun _ hj => (arr_get h hj).1
set_option maxRecDepth 100000 in
set_option maxHeartbeats 1000000 in
theorem wideCmp_any (d e : Nat → Int) (w : World) (hd : ∀ i, 0 ≤ d i ∧ d i < 65536) (he : ∀ i, 0 ≤ e i ∧ e i < 65536) :
    Calls Tryz.prog 37 #[wideV d, wideV e] w fun x w' => x = .returned (.int .i64 (cmpN d e 9)) ∧ Below w.heap.size w w' := by
  have HD := Lib.hid hd
  have HE := Lib.hid he
  clear hd he
  unfold wideV
  go_enter Tryz.func37, Tryz.ntmps37
  unfold arr9
  go_wp2_with fail
  go_loopw [5] (fun v5 wr => CmI w d e v5 wr) (fun v5 _ => (intOf v5 + 1).toNat)
  case atStart =>
    refine ⟨9, by omega, rfl, rfl, ((Below.refl _ _).alloc (Nat.le_refl _) _).alloc (by simp) _, ?_, ?_⟩
    · exact (heap_alloc_old _ _ (by simp)).trans (heap_alloc_new w _)
    · have := heap_alloc_new (w.alloc (.cells (arr9 d) 95)) (.cells (arr9 e) 95)
      simp only [Re_size] at this
      exact this
  case round =>
    obtain ⟨k, hk, rfl, hc, hb, b0, b1⟩ := hrel
    have HC := Lib.hid hc
    have HB := Lib.hid hb
    have B0 := Lib.hid b0
    have B1 := Lib.hid b1
    rcases k with _ | j
    · clear hc hb b0 b1
      go_wp2_with fail
      go_ret
      exact ⟨ret_eq HC.out.symm, HB.out⟩
    · have c0 := arr_gets' b0 j (by omega)
      have c1 := arr_gets' b1 j (by omega)
      have hdj := HD.out j
      have hej := HE.out j
      have hcj : Hid (cmpN d e 9 = if d j = e j then cmpN d e j else sgn (d j - e j)) := Lib.hid hc
      have s0 : ((j + 1 : Nat) : Int) - 1 = (j : Int) := by omega
      have s1 : (j : Int) < 9 := by omega
      generalize d j = dj at *
      generalize e j = ej at *
      clear hc hb b0 b1 HC
      rw [s0]
      by_cases hq : dj = ej
      · subst hq
        go_wp2_with fail
        go_quiet (fail)
        go_wp2_with fail
        go_roundw
        case rel => exact ⟨j, by omega, by go_num, by rw [hcj.out, if_pos trivial], ⟨HB.out.os, HB.out.tape, HB.out.output, HB.out.size, HB.out.block⟩, B0.out, B1.out⟩
        case measure => simp [intOf] <;> omega
      · have hq1 : (dj != ej) = true := by simpa using hq
        have HQ : Hid (cmpN d e 9 = sgn (dj - ej)) := Lib.hid (by rw [hcj.out, if_neg hq])
        have s2 : IntKind.i64.wrap (dj - ej) = dj - ej := IntWalk.i64_in _ (by omega)
        clear hq hcj
        go_wp2_with fail
        go_quiet (fail)
        have c0' : (wr.drewN nq).cell? ⟨w.heap.size, j, none⟩ = some (.int .i64 dj) := c0
        have c1' : (wr.drewN nq).cell? ⟨w.heap.size + 1, j, none⟩ = some (.int .i64 ej) := c1
        have HBq : Hid (Below w.heap.size w (wr.drewN nq)) := Lib.hid ⟨HB.out.os, HB.out.tape, HB.out.output, HB.out.size, HB.out.block⟩
        generalize wr.drewN nq = wq at *
        clear c0 c1
        go_wp2_with fail
        go_quiet ((go_at_call 68; exact Calls.quiet_of_same (sign_any _ _)))
        go_wp2_with fail
        go_ret
        exact ⟨ret_eq HQ.out.symm, ⟨HBq.out.os, HBq.out.tape, HBq.out.output, HBq.out.size, HBq.out.block⟩⟩
set_option maxRecDepth 100000 in
set_option maxHeartbeats 1000000 in
theorem order_any (s : Bool) (h l : Int) (s' : Bool) (h' l' : Int) (w : World) (uh : U64 h) (ul : U64 l) (uh' : U64 h') (ul' : U64 l') :
    Calls Tryz.prog 16 #[.agg #[.bool s, .int .u64 h, .int .u64 l], .agg #[.bool s', .int .u64 h', .int .u64 l']] w fun e w' => e = .returned (.int .i64 (cmpN (wd s h l) (wd s' h' l') 9)) ∧ Below w.heap.size w w' := by
  unfold U64 at uh ul uh' ul'
  have b0 : ((w.alloc (addrBox s h l)).alloc (addrBox s' h' l')).heap[w.heap.size]? = some (addrBox s h l) := (heap_alloc_old _ _ (by simp)).trans (heap_alloc_new w _)
  have b1 : ((w.alloc (addrBox s h l)).alloc (addrBox s' h' l')).heap[w.heap.size + 1]? = some (addrBox s' h' l') := by
    have := heap_alloc_new (w.alloc (addrBox s h l)) (addrBox s' h' l')
    simp only [Re_size] at this
    exact this
  obtain ⟨x0, x1, x2, -⟩ := res3 b0
  obtain ⟨x3, x4, x5, -⟩ := res3 b1
  have HB := Lib.hid (((Below.refl w.heap.size w).alloc (Nat.le_refl _) (addrBox s h l)).alloc (by simp) (addrBox s' h' l'))
  have hsz : w.heap.size + 2 ≤ ((w.alloc (addrBox s h l)).alloc (addrBox s' h' l')).heap.size := by simp
  unfold addrBox at x0 x1 x2 x3 x4 x5 hsz
  clear b0 b1
  go_enter Tryz.func16, Tryz.ntmps16
  go_wp2_with fail
  generalize hW : World.alloc _ _ = W at x0 x1 x2 x3 x4 x5 hsz ⊢
  have HBW : Hid (Below w.heap.size w W) := Lib.hid (by rw [← hW]; exact HB.out)
  clear hW HB
  go_region_held3 (fun w' => w'.cell? ⟨w.heap.size, 0, none⟩ = some (.bool s) ∧ w'.cell? ⟨w.heap.size, 1, none⟩ = some (.int .u64 h) ∧ w'.cell? ⟨w.heap.size, 2, none⟩ = some (.int .u64 l) ∧ w'.cell? ⟨w.heap.size + 1, 0, none⟩ = some (.bool s') ∧ w'.cell? ⟨w.heap.size + 1, 1, none⟩ = some (.int .u64 h') ∧ w'.cell? ⟨w.heap.size + 1, 2, none⟩ = some (.int .u64 l'))
    (first | exact ⟨x0, x1, x2, x3, x4, x5⟩ | ((repeat' apply And.intro) <;> (first | (go_simp; done) | with_reducible assumption)))
    (first
      | (go_at_call 36; refine (of_any _ _ _ _ (by assumption) (by assumption)).mono ?_; rintro e W1 ⟨rfl, hb1⟩; have x0 : W1.cell? ⟨w.heap.size, 0, none⟩ = some (.bool s) := (hb1.cell (p := ⟨w.heap.size, 0, none⟩) (by (try simp); omega)).trans (by first | assumption | (go_simp; done)); have x1 : W1.cell? ⟨w.heap.size, 1, none⟩ = some (.int .u64 h) := (hb1.cell (p := ⟨w.heap.size, 1, none⟩) (by (try simp); omega)).trans (by first | assumption | (go_simp; done)); have x2 : W1.cell? ⟨w.heap.size, 2, none⟩ = some (.int .u64 l) := (hb1.cell (p := ⟨w.heap.size, 2, none⟩) (by (try simp); omega)).trans (by first | assumption | (go_simp; done)); have x3 : W1.cell? ⟨w.heap.size + 1, 0, none⟩ = some (.bool s') := (hb1.cell (p := ⟨w.heap.size + 1, 0, none⟩) (by (try simp); omega)).trans (by first | assumption | (go_simp; done)); have x4 : W1.cell? ⟨w.heap.size + 1, 1, none⟩ = some (.int .u64 h') := (hb1.cell (p := ⟨w.heap.size + 1, 1, none⟩) (by (try simp); omega)).trans (by first | assumption | (go_simp; done)); have x5 : W1.cell? ⟨w.heap.size + 1, 2, none⟩ = some (.int .u64 l') := (hb1.cell (p := ⟨w.heap.size + 1, 2, none⟩) (by (try simp); omega)).trans (by first | assumption | (go_simp; done)); have hsz : w.heap.size + 2 ≤ W1.heap.size := (by have := hb1.size; (try simp at this); omega); have HBW : Hid (Below w.heap.size w W1) := (by first | exact Lib.hid (HBW.out.trans (hb1.mono (by omega))) | exact Lib.hid (HBW.out.drew.trans (hb1.mono (show w.heap.size ≤ W.heap.size by omega)))))
      | (go_at_call 37; refine (wideCmp_any _ _ _ (wd_bd _ _ _) (wd_bd _ _ _)).mono ?_; rintro e W1 ⟨rfl, hb1⟩; have x0 : W1.cell? ⟨w.heap.size, 0, none⟩ = some (.bool s) := (hb1.cell (p := ⟨w.heap.size, 0, none⟩) (by (try simp); omega)).trans (by first | assumption | (go_simp; done)); have x1 : W1.cell? ⟨w.heap.size, 1, none⟩ = some (.int .u64 h) := (hb1.cell (p := ⟨w.heap.size, 1, none⟩) (by (try simp); omega)).trans (by first | assumption | (go_simp; done)); have x2 : W1.cell? ⟨w.heap.size, 2, none⟩ = some (.int .u64 l) := (hb1.cell (p := ⟨w.heap.size, 2, none⟩) (by (try simp); omega)).trans (by first | assumption | (go_simp; done)); have x3 : W1.cell? ⟨w.heap.size + 1, 0, none⟩ = some (.bool s') := (hb1.cell (p := ⟨w.heap.size + 1, 0, none⟩) (by (try simp); omega)).trans (by first | assumption | (go_simp; done)); have x4 : W1.cell? ⟨w.heap.size + 1, 1, none⟩ = some (.int .u64 h') := (hb1.cell (p := ⟨w.heap.size + 1, 1, none⟩) (by (try simp); omega)).trans (by first | assumption | (go_simp; done)); have x5 : W1.cell? ⟨w.heap.size + 1, 2, none⟩ = some (.int .u64 l') := (hb1.cell (p := ⟨w.heap.size + 1, 2, none⟩) (by (try simp); omega)).trans (by first | assumption | (go_simp; done)); have HBW : Hid (Below w.heap.size w W1) := (by first | exact Lib.hid (HBW.out.trans (hb1.mono (by omega))) | exact Lib.hid (HBW.out.drew.trans (hb1.mono (show w.heap.size ≤ W.heap.size by omega))))))
  go_wp2_with fail
  go_ret
  exact ⟨rfl, HBW.out⟩
end Go.Proofs.YtpbcbgoenoolfaaGreatDoor
