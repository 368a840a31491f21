/- Right prefixes that a stream hands out over a lanekeep2 seat: RightPrefix as a function of what it draws; addr.CheckPrefix at any prefix. -/
import Derived.Test.YtajifionclpphaaGreatDoorWdS
import Derived.Test.YtajifionclpphaaGreatDoorAdS
import Derived.Test.YtajifionclpphaaGreatDoorPick
import Derived.Test.YtajifionclpphaaGreatDoorKey2
namespace Go.Proofs.YtajifionclpphaaGreatDoor
open Go.RowKit Go.Hw

theorem run_eq_addr (d : Nat) (a b : Bool) (x y u v : Int) (w : World) : (Op.equalIn (d + 2) 30 (.agg #[.bool a, .int .u64 x, .int .u64 u]) (.agg #[.bool b, .int .u64 y, .int .u64 v])).run Tryz.prog w = .ok (a == b && (x == y && u == v)) w := by
  have u1 := Tryz.underlying4
  have u2 := Tryz.underlying28
  have hA : Tryz.prog.underlying 30 = some (.struct (Tryz.prog.fieldsOf 30)) := by kernel_rfl
  have pA : Tryz.prog.stoodInHeld 30 = false := by kernel_rfl
  rw [run_equalIn_agg w (d + 1) 30 _ _ hA pA]
  simp only [Program.fieldsOf, Tryz.underlying30]
  go_simp
  by_cases h1 : a = b <;> by_cases h2 : x = y <;> by_cases h3 : u = v <;> simp [h1, h2, h3]
theorem guard_addr : Tryz.prog.eqGuardType Tryz.prog.depth 30 = false := by kernel_rfl
end Go.Proofs.YtajifionclpphaaGreatDoor

namespace Go.Proofs.YtajifionclpphaaGreatDoor
open Go.RowKit Go.Hw

theorem run_eq_pf (d : Nat) (a b : Bool) (x y u v m n : Int) (w : World) : (Op.equalIn (d + 3) 48 (.agg #[.bool a, .int .u64 x, .int .u64 u, .int .i64 m]) (.agg #[.bool b, .int .u64 y, .int .u64 v, .int .i64 n])).run Tryz.prog w = .ok ((a == b && (x == y && u == v)) && m == n) w := by
  have u2 := Tryz.underlying3
  have hA : Tryz.prog.underlying 48 = some (.struct (Tryz.prog.fieldsOf 48)) := by kernel_rfl
  have pA : Tryz.prog.stoodInHeld 48 = false := by kernel_rfl
  rw [run_equalIn_agg w (d + 2) 48 _ _ hA pA]
  simp only [Program.fieldsOf, Tryz.underlying48]
  go_simp
  by_cases h1 : a = b <;> by_cases h2 : x = y <;> by_cases h3 : u = v <;> by_cases h4 : m = n <;> simp [h1, h2, h3, h4]
theorem guard_pf : Tryz.prog.eqGuardType Tryz.prog.depth 48 = false := by kernel_rfl
end Go.Proofs.YtajifionclpphaaGreatDoor

namespace Go.Proofs.YtajifionclpphaaGreatDoor
open Go.RowKit Go.Hw
def pfBox (six : Bool) (hi lo bits_ : Int) : Obj := .cells #[.bool six, .int .u64 hi, .int .u64 lo, .int .i64 bits_] 48 (0, 0)
/-- A right prefix. -/
def PfRight (s : Bool) (h l b : Int) : Prop := AddrFine s h l ∧ 0 ≤ b ∧ ∃ m : Nat, lenA s - b = m ∧ m ≤ 128 ∧ clr h (m - 64) = h ∧ clr l (min 64 m) = l
theorem clr_clr (x : Int) (m : Nat) : clr (clr x m) m = clr x m := by
  unfold clr
  have hp : (0 : Int) < 2 ^ m := Int.pow_pos (by decide)
  rw [Int.mul_ediv_cancel _ (Int.ne_of_gt hp)]
theorem clr_le {x : Int} (h : 0 ≤ x) (m : Nat) : 0 ≤ clr x m ∧ clr x m ≤ x := by
  unfold clr
  have hp : (0 : Int) < 2 ^ m := Int.pow_pos (by decide)
  exact ⟨Int.mul_nonneg (Int.ediv_nonneg h (Int.le_of_lt hp)) (Int.le_of_lt hp), Int.ediv_mul_le x (Int.ne_of_gt hp)⟩
theorem mask_right {six : Bool} {hi lo b : Int} (hf : AddrFine six hi lo) {m : Nat} (hm : lenA six - b = m) (hm2 : m ≤ 128) (hb : 0 ≤ b) {s : Bool} {h l : Int} (he : maskF six hi lo m = (s, h, l)) : PfRight s h l b := by
  have hc := mask_closed (s := six) (hi := hi) (lo := lo) hf.1 hf.2.1 hm2
  rw [he] at hc
  injection hc with h1 h2
  injection h2 with h2 h3
  subst h1 h2 h3
  have e1 := clr_le hf.1.1 (m - 64)
  have e2 := clr_le hf.2.1.1 (min 64 m)
  refine ⟨⟨by have := hf.1; omega, by have := hf.2.1; omega, fun h6 => ?_⟩, hb, m, hm, hm2, clr_clr _ _, clr_clr _ _⟩
  obtain ⟨h7, h8⟩ := hf.2.2 h6
  omega
end Go.Proofs.YtajifionclpphaaGreatDoor

namespace Go.Proofs.YtajifionclpphaaGreatDoor
open Go.RowKit Go.Hw
set_option maxRecDepth 100000 in
set_option maxHeartbeats 1000000 in
theorem checkPrefix_ok (s : Bool) (h l b : Int) (w : World) (uh : U64 h) (ul : U64 l) (ha : addrCode s h l = 0) (hr : 0 ≤ b ∧ b ≤ lenA s) (m : Nat) (hm : lenA s - b = m) (hm2 : m ≤ 128) (hc1 : clr h (m - 64) = h) (hc2 : clr l (min 64 m) = l) :
    Calls Tryz.prog 59 #[.agg #[.bool s, .int .u64 h, .int .u64 l, .int .i64 b]] w fun e w' => e = .returned (.int .i64 0) ∧ Below w.heap.size w w' := by
  have HA := Lib.hid ha
  have HM := Lib.hid hm
  have HC1 := Lib.hid hc1
  have HC2 := Lib.hid hc2
  have hin : (decide (b < 0) || decide (lenA s < b)) = false := by simp; omega
  have HIN := Lib.hid hin
  have b0 : (w.alloc (pfBox s h l b)).heap[w.heap.size]? = some (pfBox s h l b) := heap_alloc_new w _
  obtain ⟨⟨x0, x1, x2, x3⟩, -⟩ := res4 b0
  have HB := Lib.hid ((Below.refl w.heap.size w).alloc (Nat.le_refl _) (pfBox s h l b))
  have hsz : w.heap.size + 1 ≤ (w.alloc (pfBox s h l b)).heap.size := by simp
  unfold pfBox at x0 x1 x2 x3 hsz
  have hu := uh.1
  have hq := run_eq_addr 9998 s s h h l l
  have hgd := guard_addr
  rw [show (s == s && (h == h && l == l)) = true by simp] at hq
  clear b0 ha hm hc1 hc2 hin
  go_enter Tryz.func59, Tryz.ntmps59
  go_wp2_with fail
  generalize hW : World.alloc _ _ = W at x0 x1 x2 x3 hsz ⊢
  have HBW : Hid (Below w.heap.size w W) := Lib.hid (by rw [← hW]; exact HB.out)
  clear hW HB
  refine (checkAddr_any s h l _ hu).mono ?_
  rintro e W1 ⟨rfl, hb1⟩
  rw [HA.out]
  have x0 : W1.cell? ⟨w.heap.size, 0, none⟩ = some (.bool s) := (hb1.cell (p := ⟨w.heap.size, 0, none⟩) (by first | (simp; done) | (simp; omega) | omega)).trans (by first | assumption | (go_simp; done)); have x1 : W1.cell? ⟨w.heap.size, 1, none⟩ = some (.int .u64 h) := (hb1.cell (p := ⟨w.heap.size, 1, none⟩) (by first | (simp; done) | (simp; omega) | omega)).trans (by first | assumption | (go_simp; done)); have x2 : W1.cell? ⟨w.heap.size, 2, none⟩ = some (.int .u64 l) := (hb1.cell (p := ⟨w.heap.size, 2, none⟩) (by first | (simp; done) | (simp; omega) | omega)).trans (by first | assumption | (go_simp; done)); have x3 : W1.cell? ⟨w.heap.size, 3, none⟩ = some (.int .i64 b) := (hb1.cell (p := ⟨w.heap.size, 3, none⟩) (by first | (simp; done) | (simp; omega) | omega)).trans (by first | assumption | (go_simp; done))
  have hsz : w.heap.size + 1 ≤ W1.heap.size := (by have := hb1.size; (try simp at this); omega); have hl0 : w.heap.size < W1.heap.size := (by omega)
  have HBW : Hid (Below w.heap.size w W1) := (by first | exact Lib.hid (HBW.out.trans (hb1.mono (by omega))) | exact Lib.hid (HBW.out.drew.trans (hb1.mono (show w.heap.size ≤ W.heap.size by omega))))
  clear hb1 hu
  go_wp2_with fail
  go_region_held3 (fun w' => w'.cell? ⟨w.heap.size, 0, none⟩ = some (.bool s) ∧ w'.cell? ⟨w.heap.size, 1, none⟩ = some (.int .u64 h) ∧ w'.cell? ⟨w.heap.size, 2, none⟩ = some (.int .u64 l) ∧ w'.cell? ⟨w.heap.size, 3, none⟩ = some (.int .i64 b))
    (first | exact ⟨x0, x1, x2, x3⟩ | ((repeat' apply And.intro) <;> (first | (go_simp; done) | with_reducible assumption)))
    (first
      | (go_at_call 115; refine (spanLength_any _ _ _ _).mono ?_; rintro e W2 ⟨rfl, hb2⟩; have x0 : W2.cell? ⟨w.heap.size, 0, none⟩ = some (.bool s) := (hb2.cell (p := ⟨w.heap.size, 0, none⟩) (by first | (simp; done) | (simp; omega) | omega)).trans (by first | assumption | (go_simp; done)); have x1 : W2.cell? ⟨w.heap.size, 1, none⟩ = some (.int .u64 h) := (hb2.cell (p := ⟨w.heap.size, 1, none⟩) (by first | (simp; done) | (simp; omega) | omega)).trans (by first | assumption | (go_simp; done)); have x2 : W2.cell? ⟨w.heap.size, 2, none⟩ = some (.int .u64 l) := (hb2.cell (p := ⟨w.heap.size, 2, none⟩) (by first | (simp; done) | (simp; omega) | omega)).trans (by first | assumption | (go_simp; done)); have x3 : W2.cell? ⟨w.heap.size, 3, none⟩ = some (.int .i64 b) := (hb2.cell (p := ⟨w.heap.size, 3, none⟩) (by first | (simp; done) | (simp; omega) | omega)).trans (by first | assumption | (go_simp; done)); have hsz : w.heap.size + 1 ≤ W2.heap.size := (by have := hb2.size; (try simp at this); omega); have hl0 : w.heap.size < W2.heap.size := (by omega); have HBW : Hid (Below w.heap.size w W2) := (by first | exact Lib.hid (HBW.out.trans (hb2.mono (by omega))) | exact Lib.hid (HBW.out.drew.trans (hb2.mono (show w.heap.size ≤ W1.heap.size by omega)))))
      | (go_at_call 114; refine (outside_any _ _ _ _).mono ?_; rintro e W9 ⟨rfl, rfl⟩; rw [HIN.out]))
  go_wp2_with fail
  go_region_held3 (fun w' => w'.cell? ⟨w.heap.size, 0, none⟩ = some (.bool s) ∧ w'.cell? ⟨w.heap.size, 1, none⟩ = some (.int .u64 h) ∧ w'.cell? ⟨w.heap.size, 2, none⟩ = some (.int .u64 l) ∧ w'.cell? ⟨w.heap.size, 3, none⟩ = some (.int .i64 b))
    (first | exact ⟨x0, x1, x2, x3⟩ | ((repeat' apply And.intro) <;> (first | (go_simp; done) | with_reducible assumption)))
    (first
      | (go_at_call 116; refine (masked_any s h l b _ uh ul m HM.out hm2).mono ?_; rintro e W3 ⟨rfl, hb3⟩; rw [HC1.out, HC2.out]; have x0 : W3.cell? ⟨w.heap.size, 0, none⟩ = some (.bool s) := (hb3.cell (p := ⟨w.heap.size, 0, none⟩) (by first | (simp; done) | (simp; omega) | omega)).trans (by first | assumption | (go_simp; done)); have x1 : W3.cell? ⟨w.heap.size, 1, none⟩ = some (.int .u64 h) := (hb3.cell (p := ⟨w.heap.size, 1, none⟩) (by first | (simp; done) | (simp; omega) | omega)).trans (by first | assumption | (go_simp; done)); have x2 : W3.cell? ⟨w.heap.size, 2, none⟩ = some (.int .u64 l) := (hb3.cell (p := ⟨w.heap.size, 2, none⟩) (by first | (simp; done) | (simp; omega) | omega)).trans (by first | assumption | (go_simp; done)); have x3 : W3.cell? ⟨w.heap.size, 3, none⟩ = some (.int .i64 b) := (hb3.cell (p := ⟨w.heap.size, 3, none⟩) (by first | (simp; done) | (simp; omega) | omega)).trans (by first | assumption | (go_simp; done)); have hsz : w.heap.size + 1 ≤ W3.heap.size := (by have := hb3.size; (try simp at this); omega); have hl0 : w.heap.size < W3.heap.size := (by omega); have HBW : Hid (Below w.heap.size w W3) := (by first | exact Lib.hid (HBW.out.trans (hb3.mono (by omega))) | exact Lib.hid (HBW.out.drew.trans (hb3.mono (show w.heap.size ≤ W2.heap.size by omega))))))
  go_wp2_with fail
  go_ret
  exact ⟨rfl, HBW.out⟩

set_option maxRecDepth 100000 in
set_option maxHeartbeats 1000000 in
theorem checkPrefix_1 (s : Bool) (h l b : Int) (w : World) (uh : U64 h) (_ul : U64 l) (ha : addrCode s h l = 3) :
    Calls Tryz.prog 59 #[.agg #[.bool s, .int .u64 h, .int .u64 l, .int .i64 b]] w fun e w' => e = .returned (.int .i64 3) ∧ Below w.heap.size w w' := by
  have HA := Lib.hid ha
  have b0 : (w.alloc (pfBox s h l b)).heap[w.heap.size]? = some (pfBox s h l b) := heap_alloc_new w _
  obtain ⟨⟨x0, x1, x2, x3⟩, -⟩ := res4 b0
  have HB := Lib.hid ((Below.refl w.heap.size w).alloc (Nat.le_refl _) (pfBox s h l b))
  have hsz : w.heap.size + 1 ≤ (w.alloc (pfBox s h l b)).heap.size := by simp
  unfold pfBox at x0 x1 x2 x3 hsz
  have hu := uh.1
  clear b0 ha
  go_enter Tryz.func59, Tryz.ntmps59
  go_wp2_with fail
  generalize hW : World.alloc _ _ = W at x0 x1 x2 x3 hsz ⊢
  have HBW : Hid (Below w.heap.size w W) := Lib.hid (by rw [← hW]; exact HB.out)
  clear hW HB
  refine (checkAddr_any s h l _ hu).mono ?_
  rintro e W1 ⟨rfl, hb1⟩
  rw [HA.out]
  have x0 : W1.cell? ⟨w.heap.size, 0, none⟩ = some (.bool s) := (hb1.cell (p := ⟨w.heap.size, 0, none⟩) (by first | (simp; done) | (simp; omega) | omega)).trans (by first | assumption | (go_simp; done)); have x1 : W1.cell? ⟨w.heap.size, 1, none⟩ = some (.int .u64 h) := (hb1.cell (p := ⟨w.heap.size, 1, none⟩) (by first | (simp; done) | (simp; omega) | omega)).trans (by first | assumption | (go_simp; done)); have x2 : W1.cell? ⟨w.heap.size, 2, none⟩ = some (.int .u64 l) := (hb1.cell (p := ⟨w.heap.size, 2, none⟩) (by first | (simp; done) | (simp; omega) | omega)).trans (by first | assumption | (go_simp; done)); have x3 : W1.cell? ⟨w.heap.size, 3, none⟩ = some (.int .i64 b) := (hb1.cell (p := ⟨w.heap.size, 3, none⟩) (by first | (simp; done) | (simp; omega) | omega)).trans (by first | assumption | (go_simp; done))
  have hsz : w.heap.size + 1 ≤ W1.heap.size := (by have := hb1.size; (try simp at this); omega); have hl0 : w.heap.size < W1.heap.size := (by omega)
  have HBW : Hid (Below w.heap.size w W1) := (by first | exact Lib.hid (HBW.out.trans (hb1.mono (by omega))) | exact Lib.hid (HBW.out.drew.trans (hb1.mono (show w.heap.size ≤ W.heap.size by omega))))
  clear hb1 hu
  go_wp2_with fail
  go_ret
  exact ⟨rfl, HBW.out⟩
set_option maxRecDepth 100000 in
set_option maxHeartbeats 1000000 in
theorem checkPrefix_2 (s : Bool) (h l b : Int) (w : World) (uh : U64 h) (_ul : U64 l) (ha : addrCode s h l = 0) (hr : ¬ (0 ≤ b ∧ b ≤ lenA s)) :
    Calls Tryz.prog 59 #[.agg #[.bool s, .int .u64 h, .int .u64 l, .int .i64 b]] w fun e w' => e = .returned (.int .i64 1) ∧ Below w.heap.size w w' := by
  have HA := Lib.hid ha
  have hin : (decide (b < 0) || decide (lenA s < b)) = true := by simp; omega
  have HIN := Lib.hid hin
  have b0 : (w.alloc (pfBox s h l b)).heap[w.heap.size]? = some (pfBox s h l b) := heap_alloc_new w _
  obtain ⟨⟨x0, x1, x2, x3⟩, -⟩ := res4 b0
  have HB := Lib.hid ((Below.refl w.heap.size w).alloc (Nat.le_refl _) (pfBox s h l b))
  have hsz : w.heap.size + 1 ≤ (w.alloc (pfBox s h l b)).heap.size := by simp
  unfold pfBox at x0 x1 x2 x3 hsz
  have hu := uh.1
  clear b0 ha hin hr
  go_enter Tryz.func59, Tryz.ntmps59
  go_wp2_with fail
  generalize hW : World.alloc _ _ = W at x0 x1 x2 x3 hsz ⊢
  have HBW : Hid (Below w.heap.size w W) := Lib.hid (by rw [← hW]; exact HB.out)
  clear hW HB
  refine (checkAddr_any s h l _ hu).mono ?_
  rintro e W1 ⟨rfl, hb1⟩
  rw [HA.out]
  have x0 : W1.cell? ⟨w.heap.size, 0, none⟩ = some (.bool s) := (hb1.cell (p := ⟨w.heap.size, 0, none⟩) (by first | (simp; done) | (simp; omega) | omega)).trans (by first | assumption | (go_simp; done)); have x1 : W1.cell? ⟨w.heap.size, 1, none⟩ = some (.int .u64 h) := (hb1.cell (p := ⟨w.heap.size, 1, none⟩) (by first | (simp; done) | (simp; omega) | omega)).trans (by first | assumption | (go_simp; done)); have x2 : W1.cell? ⟨w.heap.size, 2, none⟩ = some (.int .u64 l) := (hb1.cell (p := ⟨w.heap.size, 2, none⟩) (by first | (simp; done) | (simp; omega) | omega)).trans (by first | assumption | (go_simp; done)); have x3 : W1.cell? ⟨w.heap.size, 3, none⟩ = some (.int .i64 b) := (hb1.cell (p := ⟨w.heap.size, 3, none⟩) (by first | (simp; done) | (simp; omega) | omega)).trans (by first | assumption | (go_simp; done))
  have hsz : w.heap.size + 1 ≤ W1.heap.size := (by have := hb1.size; (try simp at this); omega); have hl0 : w.heap.size < W1.heap.size := (by omega)
  have HBW : Hid (Below w.heap.size w W1) := (by first | exact Lib.hid (HBW.out.trans (hb1.mono (by omega))) | exact Lib.hid (HBW.out.drew.trans (hb1.mono (show w.heap.size ≤ W.heap.size by omega))))
  clear hb1 hu
  go_wp2_with fail
  go_region_held3 (fun w' => w'.cell? ⟨w.heap.size, 0, none⟩ = some (.bool s) ∧ w'.cell? ⟨w.heap.size, 1, none⟩ = some (.int .u64 h) ∧ w'.cell? ⟨w.heap.size, 2, none⟩ = some (.int .u64 l) ∧ w'.cell? ⟨w.heap.size, 3, none⟩ = some (.int .i64 b))
    (first | exact ⟨x0, x1, x2, x3⟩ | ((repeat' apply And.intro) <;> (first | (go_simp; done) | with_reducible assumption)))
    (first
      | (go_at_call 115; refine (spanLength_any _ _ _ _).mono ?_; rintro e W2 ⟨rfl, hb2⟩; have x0 : W2.cell? ⟨w.heap.size, 0, none⟩ = some (.bool s) := (hb2.cell (p := ⟨w.heap.size, 0, none⟩) (by first | (simp; done) | (simp; omega) | omega)).trans (by first | assumption | (go_simp; done)); have x1 : W2.cell? ⟨w.heap.size, 1, none⟩ = some (.int .u64 h) := (hb2.cell (p := ⟨w.heap.size, 1, none⟩) (by first | (simp; done) | (simp; omega) | omega)).trans (by first | assumption | (go_simp; done)); have x2 : W2.cell? ⟨w.heap.size, 2, none⟩ = some (.int .u64 l) := (hb2.cell (p := ⟨w.heap.size, 2, none⟩) (by first | (simp; done) | (simp; omega) | omega)).trans (by first | assumption | (go_simp; done)); have x3 : W2.cell? ⟨w.heap.size, 3, none⟩ = some (.int .i64 b) := (hb2.cell (p := ⟨w.heap.size, 3, none⟩) (by first | (simp; done) | (simp; omega) | omega)).trans (by first | assumption | (go_simp; done)); have hsz : w.heap.size + 1 ≤ W2.heap.size := (by have := hb2.size; (try simp at this); omega); have hl0 : w.heap.size < W2.heap.size := (by omega); have HBW : Hid (Below w.heap.size w W2) := (by first | exact Lib.hid (HBW.out.trans (hb2.mono (by omega))) | exact Lib.hid (HBW.out.drew.trans (hb2.mono (show w.heap.size ≤ W1.heap.size by omega)))))
      | (go_at_call 114; refine (outside_any _ _ _ _).mono ?_; rintro e W9 ⟨rfl, rfl⟩; rw [HIN.out]))
  go_wp2_with fail
  go_ret
  exact ⟨rfl, HBW.out⟩
set_option maxRecDepth 100000 in
set_option maxHeartbeats 1000000 in
theorem checkPrefix_3 (s : Bool) (h l b : Int) (w : World) (uh : U64 h) (ul : U64 l) (ha : addrCode s h l = 0) (hr : 0 ≤ b ∧ b ≤ lenA s) (m : Nat) (hm : lenA s - b = m) (hm2 : m ≤ 128) (hne : ¬ (clr h (m - 64) = h ∧ clr l (min 64 m) = l)) :
    Calls Tryz.prog 59 #[.agg #[.bool s, .int .u64 h, .int .u64 l, .int .i64 b]] w fun e w' => e = .returned (.int .i64 3) ∧ Below w.heap.size w w' := by
  have HA := Lib.hid ha
  have HM := Lib.hid hm
  have hin : (decide (b < 0) || decide (lenA s < b)) = false := by simp; omega
  have HIN := Lib.hid hin
  have b0 : (w.alloc (pfBox s h l b)).heap[w.heap.size]? = some (pfBox s h l b) := heap_alloc_new w _
  obtain ⟨⟨x0, x1, x2, x3⟩, -⟩ := res4 b0
  have HB := Lib.hid ((Below.refl w.heap.size w).alloc (Nat.le_refl _) (pfBox s h l b))
  have hsz : w.heap.size + 1 ≤ (w.alloc (pfBox s h l b)).heap.size := by simp
  unfold pfBox at x0 x1 x2 x3 hsz
  have hu := uh.1
  have hq := fun W => (run_eq_addr 9998 s s (clr h (m - 64)) h (clr l (min 64 m)) l W).trans (show _ = Result.ok false W from by
    rw [show (s == s && (clr h (m - 64) == h && clr l (min 64 m) == l)) = false from by
      cases e1 : (clr h (m - 64) == h)
      · simp
      · cases e2 : (clr l (min 64 m) == l)
        · simp
        · exact absurd ⟨by simpa using e1, by simpa using e2⟩ hne])
  have hgd := guard_addr
  clear b0 ha hm hin hne
  go_enter Tryz.func59, Tryz.ntmps59
  go_wp2_with fail
  generalize hW : World.alloc _ _ = W at x0 x1 x2 x3 hsz ⊢
  have HBW : Hid (Below w.heap.size w W) := Lib.hid (by rw [← hW]; exact HB.out)
  clear hW HB
  refine (checkAddr_any s h l _ hu).mono ?_
  rintro e W1 ⟨rfl, hb1⟩
  rw [HA.out]
  have x0 : W1.cell? ⟨w.heap.size, 0, none⟩ = some (.bool s) := (hb1.cell (p := ⟨w.heap.size, 0, none⟩) (by first | (simp; done) | (simp; omega) | omega)).trans (by first | assumption | (go_simp; done)); have x1 : W1.cell? ⟨w.heap.size, 1, none⟩ = some (.int .u64 h) := (hb1.cell (p := ⟨w.heap.size, 1, none⟩) (by first | (simp; done) | (simp; omega) | omega)).trans (by first | assumption | (go_simp; done)); have x2 : W1.cell? ⟨w.heap.size, 2, none⟩ = some (.int .u64 l) := (hb1.cell (p := ⟨w.heap.size, 2, none⟩) (by first | (simp; done) | (simp; omega) | omega)).trans (by first | assumption | (go_simp; done)); have x3 : W1.cell? ⟨w.heap.size, 3, none⟩ = some (.int .i64 b) := (hb1.cell (p := ⟨w.heap.size, 3, none⟩) (by first | (simp; done) | (simp; omega) | omega)).trans (by first | assumption | (go_simp; done))
  have hsz : w.heap.size + 1 ≤ W1.heap.size := (by have := hb1.size; (try simp at this); omega); have hl0 : w.heap.size < W1.heap.size := (by omega)
  have HBW : Hid (Below w.heap.size w W1) := (by first | exact Lib.hid (HBW.out.trans (hb1.mono (by omega))) | exact Lib.hid (HBW.out.drew.trans (hb1.mono (show w.heap.size ≤ W.heap.size by omega))))
  clear hb1 hu
  go_wp2_with fail
  go_region_held3 (fun w' => w'.cell? ⟨w.heap.size, 0, none⟩ = some (.bool s) ∧ w'.cell? ⟨w.heap.size, 1, none⟩ = some (.int .u64 h) ∧ w'.cell? ⟨w.heap.size, 2, none⟩ = some (.int .u64 l) ∧ w'.cell? ⟨w.heap.size, 3, none⟩ = some (.int .i64 b))
    (first | exact ⟨x0, x1, x2, x3⟩ | ((repeat' apply And.intro) <;> (first | (go_simp; done) | with_reducible assumption)))
    (first
      | (go_at_call 115; refine (spanLength_any _ _ _ _).mono ?_; rintro e W2 ⟨rfl, hb2⟩; have x0 : W2.cell? ⟨w.heap.size, 0, none⟩ = some (.bool s) := (hb2.cell (p := ⟨w.heap.size, 0, none⟩) (by first | (simp; done) | (simp; omega) | omega)).trans (by first | assumption | (go_simp; done)); have x1 : W2.cell? ⟨w.heap.size, 1, none⟩ = some (.int .u64 h) := (hb2.cell (p := ⟨w.heap.size, 1, none⟩) (by first | (simp; done) | (simp; omega) | omega)).trans (by first | assumption | (go_simp; done)); have x2 : W2.cell? ⟨w.heap.size, 2, none⟩ = some (.int .u64 l) := (hb2.cell (p := ⟨w.heap.size, 2, none⟩) (by first | (simp; done) | (simp; omega) | omega)).trans (by first | assumption | (go_simp; done)); have x3 : W2.cell? ⟨w.heap.size, 3, none⟩ = some (.int .i64 b) := (hb2.cell (p := ⟨w.heap.size, 3, none⟩) (by first | (simp; done) | (simp; omega) | omega)).trans (by first | assumption | (go_simp; done)); have hsz : w.heap.size + 1 ≤ W2.heap.size := (by have := hb2.size; (try simp at this); omega); have hl0 : w.heap.size < W2.heap.size := (by omega); have HBW : Hid (Below w.heap.size w W2) := (by first | exact Lib.hid (HBW.out.trans (hb2.mono (by omega))) | exact Lib.hid (HBW.out.drew.trans (hb2.mono (show w.heap.size ≤ W1.heap.size by omega)))))
      | (go_at_call 114; refine (outside_any _ _ _ _).mono ?_; rintro e W9 ⟨rfl, rfl⟩; rw [HIN.out]))
  go_wp2_with fail
  go_region_held3 (fun w' => w'.cell? ⟨w.heap.size, 0, none⟩ = some (.bool s) ∧ w'.cell? ⟨w.heap.size, 1, none⟩ = some (.int .u64 h) ∧ w'.cell? ⟨w.heap.size, 2, none⟩ = some (.int .u64 l) ∧ w'.cell? ⟨w.heap.size, 3, none⟩ = some (.int .i64 b))
    (first | exact ⟨x0, x1, x2, x3⟩ | ((repeat' apply And.intro) <;> (first | (go_simp; done) | with_reducible assumption)))
    (first
      | (go_at_call 116; refine (masked_any s h l b _ uh ul m HM.out hm2).mono ?_; rintro e W3 ⟨rfl, hb3⟩; have x0 : W3.cell? ⟨w.heap.size, 0, none⟩ = some (.bool s) := (hb3.cell (p := ⟨w.heap.size, 0, none⟩) (by first | (simp; done) | (simp; omega) | omega)).trans (by first | assumption | (go_simp; done)); have x1 : W3.cell? ⟨w.heap.size, 1, none⟩ = some (.int .u64 h) := (hb3.cell (p := ⟨w.heap.size, 1, none⟩) (by first | (simp; done) | (simp; omega) | omega)).trans (by first | assumption | (go_simp; done)); have x2 : W3.cell? ⟨w.heap.size, 2, none⟩ = some (.int .u64 l) := (hb3.cell (p := ⟨w.heap.size, 2, none⟩) (by first | (simp; done) | (simp; omega) | omega)).trans (by first | assumption | (go_simp; done)); have x3 : W3.cell? ⟨w.heap.size, 3, none⟩ = some (.int .i64 b) := (hb3.cell (p := ⟨w.heap.size, 3, none⟩) (by first | (simp; done) | (simp; omega) | omega)).trans (by first | assumption | (go_simp; done)); have hsz : w.heap.size + 1 ≤ W3.heap.size := (by have := hb3.size; (try simp at this); omega); have hl0 : w.heap.size < W3.heap.size := (by omega); have HBW : Hid (Below w.heap.size w W3) := (by first | exact Lib.hid (HBW.out.trans (hb3.mono (by omega))) | exact Lib.hid (HBW.out.drew.trans (hb3.mono (show w.heap.size ≤ W2.heap.size by omega))))))
  go_wp2_with fail
  go_ret
  exact ⟨rfl, HBW.out⟩
theorem addrCode_or (s : Bool) (h l : Int) : addrCode s h l = 0 ∨ addrCode s h l = 3 := by
  unfold addrCode; split
  · exact .inr rfl
  · exact .inl rfl
/-- What is wrong with a prefix. -/
def pfS (s : Bool) (h l b : Int) : Int :=
  if addrCode s h l ≠ 0 then 3
  else if ¬ (0 ≤ b ∧ b ≤ lenA s) then 1
  else if clr h ((lenA s - b).toNat - 64) = h ∧ clr l (min 64 (lenA s - b).toNat) = l then 0
  else 3
theorem pfS_right {s : Bool} {h l b : Int} (H : PfRight s h l b) : pfS s h l b = 0 := by
  obtain ⟨hf, hb, m, hm, hm2, h1, h2⟩ := H
  unfold pfS
  rw [hf.code, if_neg (by decide), if_neg (fun hn => hn ⟨hb, by omega⟩), show (lenA s - b).toNat = m by omega, if_pos ⟨h1, h2⟩]
theorem checkPrefix_any (s : Bool) (h l b : Int) (w : World) (uh : U64 h) (ul : U64 l) :
    Calls Tryz.prog 59 #[.agg #[.bool s, .int .u64 h, .int .u64 l, .int .i64 b]] w fun e w' => e = .returned (.int .i64 (pfS s h l b)) ∧ Below w.heap.size w w' := by
  have hl : lenA s ≤ 128 := by unfold lenA; split <;> omega
  unfold pfS
  rcases addrCode_or s h l with ha | ha
  · rw [if_neg (by rw [ha]; decide)]
    by_cases hr : 0 ≤ b ∧ b ≤ lenA s
    · rw [if_neg (fun hn => hn hr)]
      obtain ⟨m, hm⟩ := Int.eq_ofNat_of_zero_le (show 0 ≤ lenA s - b by omega)
      rw [show (lenA s - b).toNat = m by omega]
      by_cases hc : clr h (m - 64) = h ∧ clr l (min 64 m) = l
      · rw [if_pos hc]
        exact checkPrefix_ok s h l b w uh ul ha hr m hm (by omega) hc.1 hc.2
      · rw [if_neg hc]
        exact checkPrefix_3 s h l b w uh ul ha hr m hm (by omega) hc
    · rw [if_pos hr]
      exact checkPrefix_2 s h l b w uh ul ha hr
  · rw [if_pos (by rw [ha]; decide)]
    exact checkPrefix_1 s h l b w uh ul ha
end Go.Proofs.YtajifionclpphaaGreatDoor
