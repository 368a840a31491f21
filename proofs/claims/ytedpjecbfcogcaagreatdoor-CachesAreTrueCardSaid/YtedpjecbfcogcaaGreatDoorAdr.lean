/- Stream.Addr. -/
import Derived.Test.YtedpjecbfcogcaaGreatDoorRe
namespace Go.Proofs.YtedpjecbfcogcaaGreatDoor
open Go.RowKit Go.Hw

set_option maxRecDepth 100000 in
set_option maxHeartbeats 4000000 in
theorem addr_any (b : Nat) (A : Option Addr) (cap : Nat) (l : List Int) (at_ : Int) (w : World) (h : Str w b A cap l at_) (hh : at_ < 1099511627000) :
    Calls Tryz.prog 57 #[.pointer (some ⟨b, 0, none⟩)] w (AddrOut w b A cap l at_ 3) := by
  have hbl := h.lt
  have q0 := draw_low l at_ 6 (by omega)
  have q1 := draw_high l at_ 6 (by omega)
  have h0 := h.alloc (.cells #[.bool false, .int .u64 0, .int .u64 0] 48)
  go_enter Tryz.func57, Tryz.ntmps57
  go_wp2_with fail
  refine (next_any b A cap l at_ 6 _ h0 (by omega) (by omega) (by omega)).mono ?_
  rintro e w1 ⟨rfl, hs1, hg1⟩
  generalize drawOf l at_ 6 = dd at *
  have hz := (hg1.block w.heap.size (by simp) (fun e => by injection e with e; omega)).trans (heap_alloc_new w _)
  have hl1 := lt_of_block hz
  have z0 := cell_of hz 0
  have z1 := cell_of hz 1
  have z2 := cell_of hz 2
  simp only [List.getElem?_toArray, List.getElem?_cons_zero, List.getElem?_cons_succ] at z0 z1 z2
  have zf : ∀ j, w1.frozen? ⟨w.heap.size, j, none⟩ = false := fun j => by simp [World.frozen?, hz]
  have zf0 := zf 0
  have zf1 := zf 1
  have zf2 := zf 2
  have HG1 := Lib.hid (grown_alloc_then hg1)
  have HS1 := Lib.hid hs1
  have HZ := Lib.hid hz
  clear h h0 hs1 hg1 hz zf
  by_cases c0 : dd = 0
  · subst c0
    go_wp2_with fail
    have p0 := draw_low l (at_ + 1) 5 (by omega)
    have p1 := draw_high l (at_ + 1) 5 (by omega)
    have p2 := draw_low l (at_ + 1 + 1) 5 (by omega)
    have p3 := draw_high l (at_ + 1 + 1) 5 (by omega)
    have hcall1 := fun W h => next_any b A cap l (at_ + 1) 5 W h (by omega) (by omega) (by omega)
    have hcall2 := fun W h => next_any b A cap l (at_ + 1 + 1) 5 W h (by omega) (by omega) (by omega)
    generalize drawOf l (at_ + 1) 5 = d1 at *
    generalize drawOf l (at_ + 1 + 1) 5 = d2 at *
    obtain ⟨x1, ⟨hx1, hy1⟩, hn1⟩ := five_at (a := 0) (b := 18230571291595767808) (c := 2306139568115548160) (d := 9223372036854775808) (e := 18446744073709551615) (by omega) (by omega) (by omega) (by omega) (by omega) p0 p1
    obtain ⟨x2, ⟨hx2, hy2⟩, hn2⟩ := five_at (a := 0) (b := 1) (c := 2) (d := 4294967296) (e := 18446744073709551615) (by omega) (by omega) (by omega) (by omega) (by omega) p2 p3
    have HN := Lib.hid (And.intro hn1 hn2)
    clear hn1 hn2
    have hbne : w1.heap.size ≠ b := by have := HS1.out.lt; omega
    have hbne1 : w1.heap.size + 1 ≠ b := by have := HS1.out.lt; omega
    have hwb : w.heap.size ≠ b := by omega
    have hl1b : w.heap.size < w1.heap.size + 1 := by omega
    have hl1c : w.heap.size < w1.heap.size + 1 + 1 := by omega
    go_region_with ((go_at_call 6; first | ((refine Calls.mono (hcall1 _ (by first | exact HS1.out.dr | exact (HS1.out.alloc _).dr | exact ((HS1.out.alloc _).alloc _).dr)) ?_); rintro e w2 ⟨rfl, hs2, hg2⟩; have k2 := gcell hg2; have E2 := Lib.hid (show w2.heap[w.heap.size]? = some (.cells #[.bool false, .int .u64 0, .int .u64 0] 48 (0, 0)) from blk_w hg2 (by first | exact HZ.out | exact (heap_alloc_old _ _ hl1).trans HZ.out | exact (heap_alloc_old _ _ (by simp; omega)).trans ((heap_alloc_old _ _ hl1).trans HZ.out)) hwb); have v20 := (res3 E2.out).1; have v21 := (res3 E2.out).2.1; have v22 := (res3 E2.out).2.2.1; have v23 := (res3 E2.out).2.2.2.1; have v24 := (res3 E2.out).2.2.2.2.1; have v25 := (res3 E2.out).2.2.2.2.2; have n2 : w2.heap.size ≠ b := (by have := hs2.lt; omega); have n2b : w2.heap.size + 1 ≠ b := (by have := hs2.lt; omega); (try (have z2 : w1.heap.size < w2.heap.size := (by have := hg2.size; (try simp at this); omega))); (try (have z2' : w1.heap.size + 1 < w2.heap.size := (by have := hg2.size; (try simp at this); omega))); have r2 : w.heap.size < w2.heap.size := (by have := hg2.size; (try simp at this); omega); have r2b : w.heap.size < w2.heap.size + 1 := (by omega); have r2c : w.heap.size < w2.heap.size + 1 + 1 := (by omega); (try (have z2b : w1.heap.size < w2.heap.size + 1 := (by omega))); (try (have z2c : w1.heap.size + 1 < w2.heap.size + 1 := (by omega)))) | ((refine Calls.mono (hcall2 _ (by first | exact hs2 | exact hs2.alloc _ | exact (hs2.alloc _).alloc _)) ?_); rintro e w3 ⟨rfl, hs3, hg3⟩; have k3 := gcell hg3; have e3 := (show w3.heap[w.heap.size]? = some (.cells #[.bool false, .int .u64 0, .int .u64 0] 48 (0, 0)) from blk_w hg3 (by first | exact E2.out | exact (heap_alloc_old _ _ r2).trans E2.out | exact (heap_alloc_old _ _ (by simp; omega)).trans ((heap_alloc_old _ _ r2).trans E2.out)) hwb); have E3 := Lib.hid e3; have v30 := (res3 e3).1; have v31 := (res3 e3).2.1; have v32 := (res3 e3).2.2.1; have v33 := (res3 e3).2.2.2.1; have v34 := (res3 e3).2.2.2.2.1; have v35 := (res3 e3).2.2.2.2.2; clear e3; have n3 : w3.heap.size ≠ b := (by have := hs3.lt; omega); (try (have y2 : w1.heap.size < w3.heap.size := (by have := hg3.size; (try simp at this); omega))); (try (have y2' : w1.heap.size + 1 < w3.heap.size := (by have := hg3.size; (try simp at this); omega))); (try (have y3 : w2.heap.size < w3.heap.size := (by have := hg3.size; (try simp at this); omega))); have r3 : w.heap.size < w3.heap.size := (by have := hg3.size; (try simp at this); omega); have r3b : w.heap.size < w3.heap.size + 1 := (by omega); have r3c : w.heap.size ≤ w3.heap.size := (by omega))))
    all_goals (
      go_wp2_with fail
      have g2 : w1.grownBy w2 (some b) := by first | exact drew_grown hg2 | exact grown_alloc_then (drew_grown hg2) | exact grown_alloc_then (grown_alloc_then (drew_grown hg2))
      have g3 : w2.grownBy w3 (some b) := by first | exact hg3 | exact grown_alloc_then hg3 | exact grown_alloc_then (grown_alloc_then hg3)
      have G3 := (HG1.out.andThen g2 (fun _ h => .inr h)).andThen g3 (fun _ h => .inr h)
      clear g2 g3 v30 v31 v32 v33 v34 v35 k3 v20 v21 v22 v23 v24 v25 k2
      generalize hW : World.setCell _ _ _ = W9
      obtain ⟨hr, hS9, hG9⟩ := addr_fin (T := 48) (a0 := .bool false) (a1 := .int .u64 0) (a2 := .int .u64 0) (A := A) (cap := cap) (l := l) (x := at_ + 1 + 1 + 1) hbl (by first | exact E3.out | exact (heap_alloc_old _ _ r3).trans E3.out | exact (heap_alloc_old _ _ (by simp; omega)).trans ((heap_alloc_old _ _ r3).trans E3.out)) (by first | exact hs3 | exact hs3.alloc _ | exact (hs3.alloc _).alloc _) (by first | exact G3 | exact G3.andThen (World.grownBy_alloc _ _ (some b)) (fun _ h => .inr h) | exact (G3.andThen (World.grownBy_alloc _ _ (some b)) (fun _ h => .inr h)).andThen (World.grownBy_alloc _ _ (some b)) (fun _ h => .inr h)) hW
      have y0 := cell_of hr 0
      have y1 := cell_of hr 1
      have y2 := cell_of hr 2
      simp only [List.getElem?_toArray, List.getElem?_cons_zero, List.getElem?_cons_succ] at y0 y1 y2
      have u0 : ∀ o, (W9.alloc o).cell? ⟨w.heap.size, 0, none⟩ = some (.bool true) := fun o => (World.cell?_of_block (w := W9) (heap_alloc_old W9 o (lt_of_block hr))).trans y0
      have u1 : ∀ o, (W9.alloc o).cell? ⟨w.heap.size, 1, none⟩ = some (.int .u64 x1) := fun o => (World.cell?_of_block (w := W9) (heap_alloc_old W9 o (lt_of_block hr))).trans y1
      have u2 : ∀ o, (W9.alloc o).cell? ⟨w.heap.size, 2, none⟩ = some (.int .u64 x2) := fun o => (World.cell?_of_block (w := W9) (heap_alloc_old W9 o (lt_of_block hr))).trans y2
      have t0 : ∀ o o', ((W9.alloc o).alloc o').cell? ⟨w.heap.size, 0, none⟩ = some (.bool true) := fun o o' => (World.cell?_of_block (w := W9.alloc o) (heap_alloc_old _ o' (by have := lt_of_block hr; simp; omega))).trans (u0 o)
      have t1 : ∀ o o', ((W9.alloc o).alloc o').cell? ⟨w.heap.size, 1, none⟩ = some (.int .u64 x1) := fun o o' => (World.cell?_of_block (w := W9.alloc o) (heap_alloc_old _ o' (by have := lt_of_block hr; simp; omega))).trans (u1 o)
      have t2 : ∀ o o', ((W9.alloc o).alloc o').cell? ⟨w.heap.size, 2, none⟩ = some (.int .u64 x2) := fun o o' => (World.cell?_of_block (w := W9.alloc o) (heap_alloc_old _ o' (by have := lt_of_block hr; simp; omega))).trans (u2 o)
      have hM : StrTo w W9 b A cap l at_ 3 := str_mono hS9 hG9 (by omega) (by omega)
      have hM2 : ∀ o, StrTo w (W9.alloc o) b A cap l at_ 3 := fun o => str_mono (hS9.alloc o) (hG9.andThen (World.grownBy_alloc _ _ (some b)) (fun _ h => .inr h)) (by omega) (by omega)
      have hM3 : ∀ o o', StrTo w ((W9.alloc o).alloc o') b A cap l at_ 3 := fun o o' => str_mono ((hS9.alloc o).alloc o') ((hG9.andThen (World.grownBy_alloc _ _ (some b)) (fun _ h => .inr h)).andThen (World.grownBy_alloc _ _ (some b)) (fun _ h => .inr h)) (by omega) (by omega)
      clear hS9 hG9 G3 hs3 hs2 hr
      first
        | (refine bodyPost_ret (v := .agg #[.bool true, .int .u64 x1, .int .u64 x2]) (by simp [results, Tryz.results57, go_sem, y0, y1, y2]) rfl ⟨true, x1, x2, rfl, fine_six HN.out.1 HN.out.2, hM⟩)
        | (refine bodyPost_ret (v := .agg #[.bool true, .int .u64 x1, .int .u64 x2]) (by simp [results, Tryz.results57, go_sem, u0, u1, u2]) rfl ⟨true, x1, x2, rfl, fine_six HN.out.1 HN.out.2, hM2 _⟩)
        | (refine bodyPost_ret (v := .agg #[.bool true, .int .u64 x1, .int .u64 x2]) (by simp [results, Tryz.results57, go_sem, t0, t1, t2]) rfl ⟨true, x1, x2, rfl, fine_six HN.out.1 HN.out.2, hM3 _ _⟩))
  · have e0 : (dd == 0) = false := by simpa using c0
    by_cases c1 : dd = 1
    · subst c1
      clear c0
      have q2 := draw_low l (at_ + 1) 5 (by omega)
      have q3 := draw_high l (at_ + 1) 5 (by omega)
      go_wp2_with fail
      refine (next_any b A cap l (at_ + 1) 5 _ (HS1.out.alloc _) (by omega) (by omega) (by omega)).mono ?_
      rintro e w2 ⟨rfl, hs2, hg2⟩
      have hzz := (hg2.block w.heap.size (by simp; omega) (fun e => by injection e with e; omega)).trans ((heap_alloc_old w1 _ hl1).trans HZ.out)
      have hv := u64_at (vs := ([0, 1, 4294967295, 2130706433, 3232235521] : List Int)) (heap_alloc_new w1 _) hg2 (fun e => by injection e with e; have := HS1.out.lt; omega) (k := (drawOf l (at_ + 1) 5).toNat) (by simp; omega)
      have hvv := fine_list (drawOf l (at_ + 1) 5).toNat
      generalize ([0, 1, 4294967295, 2130706433, 3232235521] : List Int).getD (drawOf l (at_ + 1) 5).toNat 0 = vv at hv hvv
      have HV := Lib.hid hvv
      clear hvv
      generalize drawOf l (at_ + 1) 5 = dd2 at *
      have hl2 := lt_of_block hzz
      have y0 := cell_of hzz 0
      have y1 := cell_of hzz 1
      have y2 := cell_of hzz 2
      simp only [List.getElem?_toArray, List.getElem?_cons_zero, List.getElem?_cons_succ] at y0 y1 y2
      have yf : ∀ j, w2.frozen? ⟨w.heap.size, j, none⟩ = false := fun j => by simp [World.frozen?, hzz]
      have yf0 := yf 0
      have yf1 := yf 1
      have yf2 := yf 2
      have HZ2 := Lib.hid hzz
      have HS2 := Lib.hid hs2
      have HG2 := Lib.hid (HG1.out.andThen (grown_alloc_then hg2) (fun _ h => .inr h))
      clear hzz yf hs2 hg2 z0 z1 z2 zf0 zf1 zf2
      go_wp2_with fail
      clear y0 y1 y2
      generalize hW : World.setCell _ _ _ = W9
      obtain ⟨hr, hS9, hG9⟩ := addr_fin hbl HZ2.out HS2.out HG2.out hW
      have y0 := cell_of hr 0
      have y1 := cell_of hr 1
      have y2 := cell_of hr 2
      simp only [List.getElem?_toArray, List.getElem?_cons_zero, List.getElem?_cons_succ] at y0 y1 y2
      refine bodyPost_ret (v := .agg #[.bool false, .int .u64 0, .int .u64 vv]) (by simp [results, Tryz.results57, go_sem, y0, y1, y2]) rfl ⟨false, 0, vv, rfl, HV.out, str_mono hS9 hG9 (by omega) (by omega)⟩
    · have e1 : (dd == 1) = false := by simpa using c1
      by_cases c2 : dd = 2
      · subst c2
        clear c0 c1
        have q2 := draw_low l (at_ + 1) 16777217 (by omega)
        have q3 := draw_high l (at_ + 1) 16777217 (by omega)
        go_wp2_with fail
        refine (range_any b A cap l (at_ + 1) 0 16777216 _ HS1.out (by omega) (by omega) (by omega) (by omega) (by omega)).mono ?_
        rintro e w2 ⟨rfl, hs2, hg2⟩
        rw [show (16777216 : Int) - 0 + 1 = 16777217 by omega]
        have hzz := (hg2.block w.heap.size hl1 (fun e => by injection e with e; omega)).trans HZ.out
        generalize drawOf l (at_ + 1) 16777217 = dd2 at *
        have hl2 := lt_of_block hzz
        have y0 := cell_of hzz 0
        have y1 := cell_of hzz 1
        have y2 := cell_of hzz 2
        simp only [List.getElem?_toArray, List.getElem?_cons_zero, List.getElem?_cons_succ] at y0 y1 y2
        have yf : ∀ j, w2.frozen? ⟨w.heap.size, j, none⟩ = false := fun j => by simp [World.frozen?, hzz]
        have yf0 := yf 0
        have yf1 := yf 1
        have yf2 := yf 2
        have HZ2 := Lib.hid hzz
        have HS2 := Lib.hid hs2
        have HG2 := Lib.hid (HG1.out.andThen hg2 (fun _ h => .inr h))
        clear hzz yf hs2 hg2 z0 z1 z2 zf0 zf1 zf2
        go_wp2_with fail
        clear y0 y1 y2
        generalize hW : World.setCell _ _ _ = W9
        obtain ⟨hr, hS9, hG9⟩ := addr_fin hbl HZ2.out HS2.out HG2.out hW
        have y0 := cell_of hr 0
        have y1 := cell_of hr 1
        have y2 := cell_of hr 2
        simp only [List.getElem?_toArray, List.getElem?_cons_zero, List.getElem?_cons_succ] at y0 y1 y2
        refine bodyPost_ret (v := .agg #[.bool false, .int .u64 0, .int .u64 ((0 + dd2) * 251 % 4294967296)]) (by simp [results, Tryz.results57, go_sem, y0, y1, y2]) rfl ⟨false, 0, ((0 + dd2) * 251 % 4294967296), rfl, fine_four (by omega) (by omega), str_mono hS9 hG9 (by omega) (by omega)⟩
      · have e2 : (dd == 2) = false := by simpa using c2
        clear c0 c1 c2
        have q2 := draw_low l (at_ + 1) 21 (by omega)
        have q3 := draw_high l (at_ + 1) 21 (by omega)
        go_wp2_with fail
        refine (range_any b A cap l (at_ + 1) 0 20 _ HS1.out (by omega) (by omega) (by omega) (by omega) (by omega)).mono ?_
        rintro e w2 ⟨rfl, hs2, hg2⟩
        rw [show (20 : Int) - 0 + 1 = 21 by omega]
        have hzz := (hg2.block w.heap.size hl1 (fun e => by injection e with e; omega)).trans HZ.out
        generalize drawOf l (at_ + 1) 21 = dd2 at *
        have hl2 := lt_of_block hzz
        have y0 := cell_of hzz 0
        have y1 := cell_of hzz 1
        have y2 := cell_of hzz 2
        simp only [List.getElem?_toArray, List.getElem?_cons_zero, List.getElem?_cons_succ] at y0 y1 y2
        have yf : ∀ j, w2.frozen? ⟨w.heap.size, j, none⟩ = false := fun j => by simp [World.frozen?, hzz]
        have yf0 := yf 0
        have yf1 := yf 1
        have yf2 := yf 2
        have HZ2 := Lib.hid hzz
        have HS2 := Lib.hid hs2
        have HG2 := Lib.hid (HG1.out.andThen hg2 (fun _ h => .inr h))
        clear hzz yf hs2 hg2 z0 z1 z2 zf0 zf1 zf2
        go_wp2_with fail
        clear y0 y1 y2
        generalize hW : World.setCell _ _ _ = W9
        obtain ⟨hr, hS9, hG9⟩ := addr_fin hbl HZ2.out HS2.out HG2.out hW
        have y0 := cell_of hr 0
        have y1 := cell_of hr 1
        have y2 := cell_of hr 2
        simp only [List.getElem?_toArray, List.getElem?_cons_zero, List.getElem?_cons_succ] at y0 y1 y2
        refine bodyPost_ret (v := .agg #[.bool false, .int .u64 0, .int .u64 (167772160 + (0 + dd2))]) (by simp [results, Tryz.results57, go_sem, y0, y1, y2]) rfl ⟨false, 0, (167772160 + (0 + dd2)), rfl, fine_four (by omega) (by omega), str_mono hS9 hG9 (by omega) (by omega)⟩
end Go.Proofs.YtedpjecbfcogcaaGreatDoor
