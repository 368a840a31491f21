/- Ways over ready()'s one link: plain law. posture.Parse at the string that ready() asks (under way). -/
import Derived.Test.YtkbbmlkgaooaiaaGreatDoorThrough
import Derived.Test.YtkbbmlkgaooaiaaGreatDoorCondF
namespace Go.Proofs.YtkbbmlkgaooaiaaGreatDoor
open Go.RowKit Go.Hw

def oneLink : List Link := [⟨⟨#[97]⟩, ⟨#[98]⟩, 3⟩]
theorem one_step {u v : ByteArray} {m : Nat} (h : (v, m) ∈ stepsAt oneLink u) : m = 3 := by
  obtain ⟨l, hl, h⟩ := mem_steps.1 h
  simp only [oneLink, List.mem_singleton] at hl
  subst hl
  rcases h with ⟨_, _, h⟩ | ⟨_, _, h⟩ <;> exact h.symm
theorem one_walk {u v : ByteArray} {s k : Nat} (h : Walk oneLink u v s k) : s = 3 * k ∧ (k = 0 → u = v) := by
  induction h with
  | here => exact ⟨rfl, fun _ => rfl⟩
  | step _ hm ih => have := one_step hm; exact ⟨by omega, fun h => by omega⟩
theorem one_trail {a v : ByteArray} {ts : List ByteArray} {s : Nat} (h : TrailTo oneLink a ts v s) : s + 3 = 3 * ts.length := by
  induction h with
  | start => rfl
  | step _ hm ih => have := one_step hm; rw [List.length_append, List.length_singleton]; omega
theorem one_ab : Walk oneLink ⟨#[97]⟩ ⟨#[98]⟩ 3 1 := Walk.step (Walk.here _) (mem_steps.2 ⟨⟨⟨#[97]⟩, ⟨#[98]⟩, 3⟩, List.mem_singleton.2 rfl, Or.inl ⟨rfl, rfl, rfl⟩⟩)
theorem one_short {n : Nat} (h : Shortest oneLink ⟨#[97]⟩ ⟨#[98]⟩ n) : n = 3 := by
  obtain ⟨⟨k, hk⟩, hm⟩ := h
  have h1 := hm _ _ one_ab
  obtain ⟨h2, h3⟩ := one_walk hk
  have h4 : k ≠ 0 := fun h => absurd (h3 h) (by decide)
  omega
theorem one_len {ts : List ByteArray} {n : Nat} (h : Shortest oneLink ⟨#[97]⟩ ⟨#[98]⟩ n) (ht : TrailTo oneLink ⟨#[98]⟩ ts ⟨#[97]⟩ n) : n = 3 ∧ ts.length = 2 := by
  have h1 := one_short h
  have h2 := one_trail ht
  exact ⟨h1, by omega⟩
end Go.Proofs.YtkbbmlkgaooaiaaGreatDoor

namespace Go.Proofs.YtkbbmlkgaooaiaaGreatDoor
open Go.RowKit Go.Hw

set_option maxRecDepth 100000 in
set_option maxHeartbeats 1000000 in
theorem parse_name (w : World) :
    Calls Tryz.prog 40 #[.string ⟨#[97]⟩] w fun e w' => e = .returned (.tuple #[condName, .int .i64 0, .int .i64 0]) ∧ Below w.heap.size w w' := by
  have n1 : (({data := #[101, 110, 100]} : ByteArray).toList == ({data := #[101, 110, 100]} : ByteArray).toList) = true := by simp
  go_enter Tryz.func40, Tryz.ntmps40
  go_wp2_with fail
  generalize hW : World.alloc (World.alloc _ _) _ = W
  have hB : Below w.heap.size w W := by rw [← hW]; exact (twoP _ _ _).2.2
  have h0 : W.heap[w.heap.size]? = some (.cells condZero 96 (0, 0)) := by rw [← hW]; exact (twoP _ _ _).1
  have h1 : W.heap[w.heap.size + 1]? = some (.cells parZero 141 (0, 0)) := by rw [← hW]; exact (twoP _ _ _).2.1
  clear hW
  have lt1 : w.heap.size + 1 < W.heap.size := Nat.lt_of_not_le fun h => by rw [Array.getElem?_eq_none h] at h1; cases h1
  refine Calls.mono (next_first (w.heap.size + 1) W h1) ?_
  rintro _ V ⟨rfl, hgr, hV⟩
  have hz : V.heap[w.heap.size]? = some (.cells condZero 96 (0, 0)) := by
    rw [hgr.block _ (by omega) (by simp)]; exact h0
  have hBV : Below w.heap.size w V := hB.grown hgr (by omega) (by rintro k ⟨⟩; omega)
  have lt2 : w.heap.size + 1 < V.heap.size := Nat.lt_of_lt_of_le lt1 hgr.size
  clear hB h0 h1 lt1 hgr
  have HZ := Lib.hid hz
  have HV := Lib.hid hV
  have HB := Lib.hid hBV
  have HS := Lib.hid lt2
  clear hz hV hBV lt2
  go_wp2_with fail
  refine Calls.mono (cond_name (w.heap.size + 1) V HV.out) ?_
  rintro _ U ⟨rfl, hgr, hV⟩
  have hs := HS.out
  have hz : U.heap[w.heap.size]? = some (.cells condZero 96 (0, 0)) := by
    rw [hgr.block _ (by omega) (by simp)]; exact HZ.out
  have hBU : Below w.heap.size w U := HB.out.grown hgr (by omega) (by rintro k ⟨⟩; omega)
  have hs2 : w.heap.size + 1 < U.heap.size := Nat.lt_of_lt_of_le hs hgr.size
  clear hgr hs HZ HV HB HS
  have HZ := Lib.hid hz
  have HV := Lib.hid hV
  have HB := Lib.hid hBU
  have HS := Lib.hid hs2
  clear hz hV hBU hs2
  simp only [condName, condCells]
  go_upto_region 6 with (fail)
  generalize hT : World.alloc _ _ = T
  have hUT : Below U.heap.size U T := by rw [← hT]; exact (Below.refl _ _).alloc (Nat.le_refl _) _
  have hn : T.heap[U.heap.size]? = some (.cells condCells 96 (0, 0)) := by rw [← hT]; exact heap_new _ _
  have hs := HS.out
  have hz : T.heap[w.heap.size]? = some (.cells condZero 96 (0, 0)) := (hUT.block _ (by omega)).trans HZ.out
  have hV : T.heap[w.heap.size + 1]? = some (.cells parEnd 141 (0, 0)) := (hUT.block _ hs).trans HV.out
  have hBT : Below w.heap.size w T := HB.out.trans (hUT.mono (by omega))
  have ltn : U.heap.size < T.heap.size := Nat.lt_of_not_le fun h => by rw [Array.getElem?_eq_none h] at hn; cases hn
  have hsn : w.heap.size < U.heap.size := by omega
  generalize U.heap.size = n at hn ltn hsn ⊢
  have p1 := cell_of hV 1
  have p12 := cell_of hV 12
  simp only [parEnd, List.getElem?_toArray, List.getElem?_cons_zero, List.getElem?_cons_succ] at p1 p12
  have v0 := fun i => cell_of hn i
  have a0 := v0 0
  have a1 := v0 1
  have a2 := v0 2
  have a3 := v0 3
  have a4 := v0 4
  have a5 := v0 5
  have a6 := v0 6
  have a7 := v0 7
  have a8 := v0 8
  have a9 := v0 9
  have a10 := v0 10
  simp only [condCells, List.getElem?_toArray, List.getElem?_cons_zero, List.getElem?_cons_succ] at a0 a1 a2 a3 a4 a5 a6 a7 a8 a9 a10
  have HN := Lib.hid hn
  have HZT := Lib.hid hz
  have HBT := Lib.hid hBT
  have LTN := Lib.hid ltn
  have HSN := Lib.hid hsn
  clear v0 hT hUT hn hs hz hV hBT ltn hsn HZ HV HB HS
  go_wp2_with fail
  refine Calls.mono (checkCond_name T) ?_
  rintro _ U ⟨rfl, hU⟩
  have ltn := LTN.out
  have hsn := HSN.out
  have hn := (hU.block n ltn).trans HN.out
  have hz := (hU.block w.heap.size (by omega)).trans HZT.out
  have hBU : Below w.heap.size w U := HBT.out.trans (hU.mono (by omega))
  clear a0 a1 a2 a3 a4 a5 a6 a7 a8 a9 a10 p1 p12 HN HZT HBT LTN HSN hU ltn hsn
  have v0 := fun i => cell_of hn i
  have z0 := fun i => cell_of hz i
  have a0 := v0 0
  have a1 := v0 1
  have a2 := v0 2
  have a3 := v0 3
  have a4 := v0 4
  have a5 := v0 5
  have a6 := v0 6
  have a7 := v0 7
  have a8 := v0 8
  have a9 := v0 9
  have a10 := v0 10
  have e0 := z0 0
  have e1 := z0 1
  have e2 := z0 2
  have e3 := z0 3
  have e4 := z0 4
  have e5 := z0 5
  have e6 := z0 6
  have e7 := z0 7
  have e8 := z0 8
  have e9 := z0 9
  have e10 := z0 10
  simp only [condZero, condCells, List.getElem?_toArray, List.getElem?_cons_zero, List.getElem?_cons_succ] at a0 a1 a2 a3 a4 a5 a6 a7 a8 a9 a10 e0 e1 e2 e3 e4 e5 e6 e7 e8 e9 e10
  have fz : ∀ i, U.frozen? ⟨w.heap.size, i, none⟩ = false := fun i => by simp [World.frozen?, hz]
  have HZ := Lib.hid hz
  have HB := Lib.hid hBU
  clear v0 z0 hz hn hBU
  go_wp2_with fail
  generalize hX : World.setCell _ _ _ = X
  have hu := put11 (.int .i64 1) (.string ⟨#[97]⟩) (.string ⟨#[61, 61]⟩) (.int .i64 3) (.int .i64 1) (.string ⟨#[]⟩) (.int .i64 0) (.int .i64 0) (.int .i64 0) (.int .i64 0) (.slice none 0 0) HB.out (Nat.le_refl _) HZ.out
  rw [hX] at hu
  obtain ⟨hBX, hx⟩ := hu
  clear hX a0 a1 a2 a3 a4 a5 a6 a7 a8 a9 a10 e0 e1 e2 e3 e4 e5 e6 e7 e8 e9 e10 fz HZ HB
  have e := fun i => cell_of hx i
  have HBX := Lib.hid hBX
  clear hx hBX
  refine bodyPost_ret (v := .tuple #[condName, .int .i64 0, .int .i64 0]) ?_ rfl ⟨rfl, HBX.out⟩
  simp [results, Tryz.results40, go_sem, condName, condCells, e]
end Go.Proofs.YtkbbmlkgaooaiaaGreatDoor
