/- posture's tokens at "a". -/
import Derived.Test.YtkbbmlkgaooaiaaGreatDoorKey
import Derived.BigRegion
import Derived.Deep.RegionHeld3
namespace Go.Proofs.YtkbbmlkgaooaiaaGreatDoor
open Go.RowKit Go.Hw

def tokEnd : Value := .agg #[.string ⟨#[101, 110, 100]⟩, .int .i64 1, .int .i64 0, .string ⟨#[]⟩, .int .i64 0, .int .i64 0, .string ⟨#[]⟩, .int .i64 0, .int .i64 0, .int .i64 0, .int .i64 0]
def tokName : Value := .agg #[.string ⟨#[110, 97, 109, 101]⟩, .int .i64 0, .int .i64 1, .string ⟨#[97]⟩, .int .i64 0, .int .i64 0, .string ⟨#[]⟩, .int .i64 0, .int .i64 0, .int .i64 0, .int .i64 0]

theorem cell_ne (w : World) (g i j : Nat) (v : Value) (h : i ≠ j) : (w.setCell ⟨g, i, none⟩ v).cell? ⟨g, j, none⟩ = w.cell? ⟨g, j, none⟩ :=
  World.cell?_setCell_other _ _ _ _ (by intro e; injection e with e1 e2 e3; exact h e2)
theorem cell_drew (w : World) (a : Addr) : w.drew.cell? a = w.cell? a := rfl

theorem heap_set {w : World} {g : Nat} {c : Array Value} {t : TypeId} {l} (h : w.heap[g]? = some (.cells c t l)) (i : Nat) (v : Value) :
    (w.setCell ⟨g, i, none⟩ v).heap[g]? = some (.cells (c.setIfInBounds i v) t l) := by
  simp [World.setCell, Array.getElem?_modify, h]
theorem heap_drew {w : World} {g : Nat} {o : Option Obj} (h : w.heap[g]? = o) : w.drew.heap[g]? = o := h
theorem grown_set {w w1 : World} {g : Nat} (h : w.grownBy w1 (some g)) (i : Nat) (v : Value) : w.grownBy (w1.setCell ⟨g, i, none⟩ v) (some g) :=
  ⟨h.os, h.tape, h.output, by have := h.size; simp; omega, fun k hk hne => (Below.heap_setCell _ _ _ k (fun e => hne (by rw [e]))).trans (h.block k hk hne)⟩
theorem grown_drew {w w1 : World} {r : Option Nat} (h : w.grownBy w1 r) : w.grownBy w1.drew r := ⟨h.os, h.tape, h.output, h.size, h.block⟩
theorem cell_of {w : World} {g : Nat} {c : Array Value} {t : TypeId} {l} (h : w.heap[g]? = some (.cells c t l)) (i : Nat) : w.cell? ⟨g, i, none⟩ = c[i]? := by simp [World.cell?, h]

set_option maxRecDepth 100000 in
set_option maxHeartbeats 1000000 in
theorem token_end (w : World) :
    Calls Tryz.prog 93 #[.string ⟨#[97]⟩, .int .i64 1] w fun e w' => e = .returned tokEnd ∧ Below w.heap.size w w' := by
  go_enter Tryz.func93, Tryz.ntmps93
  go_wp2_with fail
  refine bodyPost_ret (v := tokEnd) (by simp [results, Tryz.results93, go_sem, tokEnd]) rfl ⟨rfl, ?_⟩
  repeat' (first | exact Below.refl _ _ | refine Below.setCell ?_ (by simp) _ | refine Below.alloc ?_ (by simp) _)

set_option maxRecDepth 100000 in
set_option maxHeartbeats 1000000 in
theorem token_word (g : Nat) (w : World) (hg : w.heap[g]? = some (.cells #[.string ⟨#[98, 97, 100]⟩, .int .i64 0, .int .i64 0, .string ⟨#[]⟩, .int .i64 0, .int .i64 0, .string ⟨#[]⟩, .int .i64 0, .int .i64 0, .int .i64 0, .int .i64 0] 139 (0, 0))) :
    Calls Tryz.prog 117 #[.pointer (some ⟨g, 0, none⟩), .string ⟨#[97]⟩] w fun e w' => e = .returned (.tuple #[]) ∧ w.grownBy w' (some g) ∧
      w'.heap[g]? = some (.cells #[.string ⟨#[110, 97, 109, 101]⟩, .int .i64 0, .int .i64 1, .string ⟨#[97]⟩, .int .i64 0, .int .i64 0, .string ⟨#[]⟩, .int .i64 0, .int .i64 0, .int .i64 0, .int .i64 0] 139 (0, 0)) := by
  have b0 : ((⟨#[97]⟩ : ByteArray)[0]).toNat = 97 := rfl
  have c : ∀ i, w.cell? ⟨g, i, none⟩ = #[Value.string ⟨#[98, 97, 100]⟩, .int .i64 0, .int .i64 0, .string ⟨#[]⟩, .int .i64 0, .int .i64 0, .string ⟨#[]⟩, .int .i64 0, .int .i64 0, .int .i64 0, .int .i64 0][i]? := fun i => by simp [World.cell?, hg]
  have f : ∀ i, w.frozen? ⟨g, i, none⟩ = false := fun i => by simp [World.frozen?, hg]
  have c0 := c 0
  have c1 := c 1
  have c2 := c 2
  have c3 := c 3
  have f0 := f 0
  have f2 := f 2
  have f3 := f 3
  simp only [List.getElem?_toArray, List.getElem?_cons_zero, List.getElem?_cons_succ] at c0 c1 c2 c3
  have HGB := Lib.hid hg
  clear c f hg
  go_enter Tryz.func117, Tryz.ntmps117
  go_wp2_with fail
  refine wp_loop_rounds 2 ?_
  rw [rounds_succ]
  go_wp2_with (go_at_call 133; go_in)
  rw [rounds_succ]
  go_wp2_with fail
  have k1 : ((w.setCell ⟨g, 2, none⟩ (.int .i64 0)).setCell ⟨g, 2, none⟩ (.int .i64 1)).cell? ⟨g, 1, none⟩ = some (.int .i64 0) := by
    rw [cell_ne _ _ _ _ _ (by decide), cell_ne _ _ _ _ _ (by decide)]; exact c1
  have k2 : ((w.setCell ⟨g, 2, none⟩ (.int .i64 0)).setCell ⟨g, 2, none⟩ (.int .i64 1)).cell? ⟨g, 2, none⟩ = some (.int .i64 1) :=
    World.cell?_setCell_same' _ _ _ (by rw [World.cell?_setCell_same' _ _ _ (by rw [c2]; rfl)]; rfl)
  go_region_held3 (fun w' => w'.cell? ⟨g, 1, none⟩ = some (.int .i64 0) ∧ w'.cell? ⟨g, 2, none⟩ = some (.int .i64 1)) ((repeat' apply And.intro) <;> (repeat' first | with_reducible assumption | rw [cell_drew] | rw [cell_ne _ _ _ _ _ (by decide)])) (fail)
  have t4 : (({data := #[97]} : ByteArray).toList == ({data := #[116, 114, 117, 101]} : ByteArray).toList) = false := by rw [ByteArray.toList_eq, ByteArray.toList_eq]; rfl
  have t5 : (({data := #[97]} : ByteArray).toList == ({data := #[102, 97, 108, 115, 101]} : ByteArray).toList) = false := by rw [ByteArray.toList_eq, ByteArray.toList_eq]; rfl
  have hg := HGB.out
  generalize hW : World.drew _ = W
  have hw1 : w.grownBy W (some g) := by
    rw [← hW]
    repeat' (first | exact World.grownBy.refl _ _ | refine grown_drew ?_ | refine grown_set ?_ _ _)
  have hw2 : W.heap[g]? = some (.cells #[.string ⟨#[110, 97, 109, 101]⟩, .int .i64 0, .int .i64 1, .string ⟨#[97]⟩, .int .i64 0, .int .i64 0, .string ⟨#[]⟩, .int .i64 0, .int .i64 0, .int .i64 0, .int .i64 0] 139 (0, 0)) := by
    rw [← hW]
    exact heap_drew (heap_set (heap_set (heap_set (heap_set hg _ _) _ _) _ _) _ _)
  clear hW hg HGB c0 c1 c2 c3 f0 f2 f3 k1 k2
  have c3 : W.cell? ⟨g, 3, none⟩ = some (.string ⟨#[97]⟩) := cell_of hw2 3
  have H1 := Lib.hid hw1
  have H2 := Lib.hid hw2
  clear hw1 hw2
  go_wp2_with fail
  exact bodyPost_end (v := .tuple #[]) (by simp [results, Tryz.results117, go_sem]) rfl ⟨rfl, H1.out, H2.out⟩

end Go.Proofs.YtkbbmlkgaooaiaaGreatDoor
