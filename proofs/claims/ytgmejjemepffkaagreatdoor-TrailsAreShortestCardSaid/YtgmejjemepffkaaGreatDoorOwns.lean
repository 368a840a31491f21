/- node.Owns at the directory that ready() asks. -/
import Derived.Test.YtgmejjemepffkaaGreatDoorKey
namespace Go.Proofs.YtgmejjemepffkaaGreatDoor
open Go.RowKit Go.Hw

theorem belowN {B : Nat} {a w : World} (h : Below B a w) (n : Nat) : Below B a (w.drewN n) := ⟨h.os, h.tape, h.output, h.size, h.block⟩
def strA : ByteArray := ⟨#[97]⟩
def strT : ByteArray := ⟨#[116]⟩
theorem key_a : isKey ⟨#[97]⟩ = true := by decide
theorem key_t : isKey ⟨#[116]⟩ = true := by decide

set_option maxRecDepth 100000 in
set_option maxHeartbeats 400000 in
theorem rising_one (g : Nat) (w : World) (c : w.cell? ⟨g, 0, none⟩ = some (.string ⟨#[97]⟩)) :
    Calls Tryz.prog 43 #[.slice (some ⟨g, 0, none⟩) 1 1] w fun e w' => e = .returned (.int .i64 0) ∧ w = w' := by
  go_enter Tryz.func43, Tryz.ntmps43
  go_wp2_with fail
  refine wp_loop_rounds 2 ?_
  rw [rounds_succ]
  go_wp2_with fail
  refine (isKey_any _ _ (by decide)).mono ?_
  rintro e w' ⟨rfl, rfl⟩
  rw [key_a]
  go_wp2_with fail
  rw [rounds_succ]
  go_wp2_with fail
  go_ret
  exact ⟨rfl, rfl⟩
theorem contains_one (g : Nat) (w : World) (c : w.cell? ⟨g, 0, none⟩ = some (.string ⟨#[97]⟩)) :
    Calls Tryz.prog 32 #[.slice (some ⟨g, 0, none⟩) 1 1, .string ⟨#[97]⟩] w fun e w' => e = .returned (.bool true) ∧ w = w' :=
  (Tryz.slices_Contains_string g 0 1 1 [⟨#[97]⟩] ⟨#[97]⟩ w (by simp) (by decide) (fun j hj => by
    have : j = 0 := by simp at hj; omega
    subst this
    exact c)).mono fun e w' ⟨h1, h2⟩ => ⟨h1.trans (ret_bool (by decide)), h2.symm⟩

/-- The directory of ready(). -/
def dirV (gU gO : Nat) : Value := .agg #[.slice (some ⟨gU, 0, none⟩) 1 1, .slice (some ⟨gO, 0, none⟩) 1 1, .int .i64 1, .bool false]

set_option maxRecDepth 100000 in
set_option maxHeartbeats 1000000 in
theorem checkDir (gU gO gT : Nat) (w : World) (hU : gU < w.heap.size) (hO : gO < w.heap.size) (hT : gT < w.heap.size) (cU : w.cell? ⟨gU, 0, none⟩ = some (.string ⟨#[97]⟩)) (cO0 : w.cell? ⟨gO, 0, none⟩ = some (.string ⟨#[116]⟩))
    (cO1 : w.cell? ⟨gO, 1, none⟩ = some (.slice (some ⟨gT, 0, none⟩) 1 1)) (cT : w.cell? ⟨gT, 0, none⟩ = some (.string ⟨#[97]⟩)) :
    Calls Tryz.prog 30 #[.agg #[.slice (some ⟨gU, 0, none⟩) 1 1, .slice (some ⟨gO, 0, none⟩) 1 1, .int .i64 1, .bool false]] w fun e w' => e = .returned (.int .i64 0) ∧ Below w.heap.size w w' := by
  go_enter Tryz.func30, Tryz.ntmps30
  go_wp2_with fail
  refine (rising_one gU _ (by simpa [World.cell?_alloc_lt, hU] using cU)).mono ?_
  rintro e w1 ⟨rfl, rfl⟩
  go_wp2_with fail
  refine wp_loop_rounds 2 ?_
  rw [rounds_succ]
  go_wp2_with fail
  refine (isKey_any _ _ (by decide)).mono ?_
  rintro e w' ⟨rfl, rfl⟩
  rw [key_t]
  go_wp2_with fail
  go_quiet (fail)
  go_wp2_with fail
  refine wp_loop_rounds 2 ?_
  rw [rounds_succ]
  go_wp2_with fail
  refine (contains_one gU _ (by go_simp)).mono ?_
  rintro e w' ⟨rfl, rfl⟩
  go_wp2_with fail
  rw [rounds_succ]
  go_wp2_with fail
  rw [rounds_succ]
  go_wp2_with fail
  refine (outside_any _ _ _ _).mono ?_
  rintro e w' ⟨rfl, rfl⟩
  go_wp2_with fail
  go_ret
  exact ⟨rfl, belowN (((Below.refl _ _).alloc (Nat.le_refl _) _).alloc (by simp) _) _⟩

set_option maxRecDepth 100000 in
set_option maxHeartbeats 1000000 in
theorem ownsIdx (gO gT gF : Nat) (w : World) (_hO : gO < w.heap.size) (hF : gF < w.heap.size) (cO0 : w.cell? ⟨gO, 0, none⟩ = some (.string ⟨#[116]⟩)) (cO1 : w.cell? ⟨gO, 1, none⟩ = some (.slice (some ⟨gT, 0, none⟩) 1 1)) (cF : w.cell? ⟨gF, 0, none⟩ = some (.string ⟨#[116]⟩)) :
    Calls Tryz.prog 44 #[.slice (some ⟨gO, 0, none⟩) 1 1, .func (.func 45) #[] #[.pointer (some ⟨gF, 0, none⟩)]] w fun e w' => e = .returned (.int .i64 0) ∧ Below w.heap.size w w' := by
  go_enter Tryz.func44, Tryz.ntmps44
  go_wp2_with fail
  refine wp_loop_rounds 1 ?_
  rw [rounds_succ]
  go_wp2
  go_ret
  exact ⟨rfl, (Below.refl _ _).alloc (Nat.le_refl _) _⟩

set_option maxRecDepth 100000 in
set_option maxHeartbeats 1000000 in
theorem owns_at (gU gO gT : Nat) (w : World) (_hU : gU < w.heap.size) (hO : gO < w.heap.size) (hT : gT < w.heap.size) (_cU : w.cell? ⟨gU, 0, none⟩ = some (.string ⟨#[97]⟩)) (cO0 : w.cell? ⟨gO, 0, none⟩ = some (.string ⟨#[116]⟩))
    (cO1 : w.cell? ⟨gO, 1, none⟩ = some (.slice (some ⟨gT, 0, none⟩) 1 1)) (cT : w.cell? ⟨gT, 0, none⟩ = some (.string ⟨#[97]⟩)) :
    Calls Tryz.prog 31 #[.agg #[.slice (some ⟨gU, 0, none⟩) 1 1, .slice (some ⟨gO, 0, none⟩) 1 1, .int .i64 1, .bool false], .string ⟨#[97]⟩, .string ⟨#[116]⟩] w fun e w' => e = .returned (.tuple #[.bool true, .bool true]) ∧ Below w.heap.size w w' := by
  go_enter Tryz.func31, Tryz.ntmps31
  go_wp2_with fail
  refine (ownsIdx gO gT _ _ (by simp; omega) (by simp) (by go_simp) (by go_simp) (by go_simp)).mono ?_
  rintro e w1 ⟨rfl, hb⟩
  have hs := hb.size
  have hU1 := hb.cell (p := ⟨w.heap.size, 1, none⟩) (by simp; omega)
  have c1 : w1.cell? ⟨w.heap.size, 1, none⟩ = some (.slice (some ⟨gO, 0, none⟩) 1 1) := hU1.trans (by go_simp)
  have c2 : w1.cell? ⟨gO, 1, none⟩ = some (.slice (some ⟨gT, 0, none⟩) 1 1) := (hb.cell (by simp; omega)).trans (by go_simp)
  have c3 : w1.cell? ⟨gT, 0, none⟩ = some (.string ⟨#[97]⟩) := (hb.cell (by simp; omega)).trans (by go_simp)
  clear hU1
  go_wp2_with fail
  refine (contains_one gT _ c3).mono ?_
  rintro e w2 ⟨rfl, rfl⟩
  go_wp2_with fail
  go_ret2
  exact ⟨rfl, (((Below.refl _ _).alloc (Nat.le_refl _) _).alloc (by simp) _).trans (hb.mono (by simp; omega))⟩

set_option maxRecDepth 100000 in
set_option maxHeartbeats 1000000 in
theorem owns_ready (gU gO gT : Nat) (w : World) (hU : gU < w.heap.size) (hO : gO < w.heap.size) (hT : gT < w.heap.size) (cU : w.cell? ⟨gU, 0, none⟩ = some (.string ⟨#[97]⟩)) (cO0 : w.cell? ⟨gO, 0, none⟩ = some (.string ⟨#[116]⟩))
    (cO1 : w.cell? ⟨gO, 1, none⟩ = some (.slice (some ⟨gT, 0, none⟩) 1 1)) (cT : w.cell? ⟨gT, 0, none⟩ = some (.string ⟨#[97]⟩)) :
    Calls Tryz.prog 19 #[.agg #[.slice (some ⟨gU, 0, none⟩) 1 1, .slice (some ⟨gO, 0, none⟩) 1 1, .int .i64 1, .bool false], .string ⟨#[97]⟩, .string ⟨#[116]⟩] w fun e w' => e = .returned (.tuple #[.bool true, .int .i64 0]) ∧ Below w.heap.size w w' := by
  go_enter Tryz.func19, Tryz.ntmps19
  go_wp2_with fail
  refine (checkDir gU gO gT _ (by simp; omega) (by simp; omega) (by simp; omega) (by go_simp) (by go_simp) (by go_simp) (by go_simp)).mono ?_
  rintro e w1 ⟨rfl, hb⟩
  have hs := hb.size
  simp at hs
  have e0 : w1.cell? ⟨w.heap.size, 0, none⟩ = some (.slice (some ⟨gU, 0, none⟩) 1 1) := (hb.cell (by simp)).trans (by go_simp)
  have e1 : w1.cell? ⟨w.heap.size, 1, none⟩ = some (.slice (some ⟨gO, 0, none⟩) 1 1) := (hb.cell (by simp)).trans (by go_simp)
  have e2 : w1.cell? ⟨w.heap.size, 2, none⟩ = some (.int .i64 1) := (hb.cell (by simp)).trans (by go_simp)
  have e3 : w1.cell? ⟨w.heap.size, 3, none⟩ = some (.bool false) := (hb.cell (by simp)).trans (by go_simp)
  have d0 : w1.cell? ⟨gU, 0, none⟩ = some (.string ⟨#[97]⟩) := (hb.cell (by simp; omega)).trans (by go_simp)
  have d1 : w1.cell? ⟨gO, 0, none⟩ = some (.string ⟨#[116]⟩) := (hb.cell (by simp; omega)).trans (by go_simp)
  have d2 : w1.cell? ⟨gO, 1, none⟩ = some (.slice (some ⟨gT, 0, none⟩) 1 1) := (hb.cell (by simp; omega)).trans (by go_simp)
  have d3 : w1.cell? ⟨gT, 0, none⟩ = some (.string ⟨#[97]⟩) := (hb.cell (by simp; omega)).trans (by go_simp)
  clear cU cO0 cO1 cT
  go_wp2_with fail
  refine (owns_at gU gO gT _ (by omega) (by omega) (by omega) d0 d1 d2 d3).mono ?_
  rintro e w2 ⟨rfl, hb2⟩
  have f0 : w2.cell? ⟨w.heap.size, 0, none⟩ = some (.slice (some ⟨gU, 0, none⟩) 1 1) := (hb2.cell (by simp; omega)).trans e0
  have f1 : w2.cell? ⟨gU, 0, none⟩ = some (.string ⟨#[97]⟩) := (hb2.cell (by simp; omega)).trans d0
  clear e0 e1 e2 e3 d0 d1 d2 d3
  go_wp2_with fail
  refine (contains_one gU _ f1).mono ?_
  rintro e w3 ⟨rfl, rfl⟩
  go_wp2_with fail
  go_ret2
  exact ⟨rfl, ((Below.refl _ _).alloc (Nat.le_refl _) _).trans ((hb.mono (by simp)).trans (hb2.mono (by omega)))⟩
end Go.Proofs.YtgmejjemepffkaaGreatDoor
