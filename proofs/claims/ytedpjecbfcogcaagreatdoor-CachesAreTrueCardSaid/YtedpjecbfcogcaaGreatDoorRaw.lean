/- Stream.Raw. -/
import Derived.Test.YtedpjecbfcogcaaGreatDoorAdr
import Derived.Test.YtedpjecbfcogcaaGreatDoorFlip
namespace Go.Proofs.YtedpjecbfcogcaaGreatDoor
open Go.RowKit Go.Hw

/-- Like AddrOut, of an address that need not be right. -/
def RawOut (w : World) (b : Nat) (A : Option Addr) (cap : Nat) (l : List Int) (at_ m : Int) (e : Ending) (w' : World) : Prop :=
  ∃ six hi lo, e = .returned (.agg #[.bool six, .int .u64 hi, .int .u64 lo]) ∧ 0 ≤ hi ∧ StrTo w w' b A cap l at_ m
set_option maxRecDepth 100000 in
set_option maxHeartbeats 2000000 in
theorem raw_any (b : Nat) (A : Option Addr) (cap : Nat) (l : List Int) (at_ : Int) (w : World) (h : Str w b A cap l at_) (hh : at_ < 1099511627000) :
    Calls Tryz.prog 34 #[.pointer (some ⟨b, 0, none⟩)] w (RawOut w b A cap l at_ 10) := by
  have hbl := h.lt
  have h0 := h.alloc (.cells #[.bool false, .int .u64 0, .int .u64 0] 48)
  have l0 := h.low
  go_enter Tryz.func34, Tryz.ntmps34
  go_wp2_with fail
  refine (addr_any b A cap l at_ _ h0 hh).mono ?_
  rintro e w1 ⟨six, hi, lo, rfl, hfine, at1, ha1, ha2, hs1, hg1⟩
  have hhi : 0 ≤ hi := by unfold AddrFine at hfine; omega
  have hz := (hg1.block w.heap.size (by simp) (fun e => by injection e with e; omega)).trans (heap_alloc_new w _)
  have hl1 := lt_of_block hz
  have HG1 := Lib.hid (grown_alloc_then hg1)
  have HZ := Lib.hid hz
  have HI := Lib.hid hhi
  clear hfine hg1 hz h h0 hhi
  go_wp2_with fail
  refine (flip_any b A cap l at1 15 _ (hs1.alloc _) (by omega) (by omega) (by omega)).mono ?_
  rintro e w2 ⟨rfl, hs2, hg2⟩
  have hz2 := (hg2.block w.heap.size (by simp; omega) (fun e => by injection e with e; omega)).trans ((heap_alloc_old w1 _ hl1).trans HZ.out)
  have hy2 := (hg2.block w1.heap.size (by simp) (fun e => by injection e with e; have := hs1.lt; omega)).trans (heap_alloc_new w1 _)
  have HG2 := Lib.hid (HG1.out.andThen (grown_alloc_then hg2) (fun _ h => .inr h))
  have hl2 := lt_of_block hz2
  have HZ2 := Lib.hid hz2
  have HY2 := Lib.hid hy2
  have hl3 := lt_of_block hy2
  clear hg2 hz2 hy2 HG1 HZ
  generalize hfl : (drawOf l at1 15 == 0) = fl
  clear hfl
  cases fl
  · obtain ⟨z0, z1, z2, zf0, zf1, zf2⟩ := res3 HZ2.out
    obtain ⟨y0, y1, y2, -, -, -⟩ := res3 HY2.out
    go_wp2_with fail
    clear z0 z1 z2 y0 y1 y2
    generalize hW : World.setCell _ _ _ = W9
    obtain ⟨hr, hS9, hG9⟩ := addr_fin hbl HZ2.out hs2 HG2.out hW
    obtain ⟨y0, y1, y2, -, -, -⟩ := res3 hr
    refine bodyPost_ret (v := .agg #[.bool six, .int .u64 hi, .int .u64 lo]) (by simp [results, Tryz.results34, go_sem, y0, y1, y2]) rfl ⟨six, hi, lo, rfl, HI.out, str_mono hS9 hG9 (by omega) (by omega)⟩
  · go_wp2_with fail
    have p0 := draw_low l (at1 + 1) 2 (by omega)
    have p1 := draw_high l (at1 + 1) 2 (by omega)
    refine (next_any b A cap l (at1 + 1) 2 _ hs2 (by omega) (by omega) (by omega)).mono ?_
    rintro e w3 ⟨rfl, hs3, hg3⟩
    have hz3 := (hg3.block w.heap.size hl2 (fun e => by injection e with e; omega)).trans HZ2.out
    have HG3 := Lib.hid (HG2.out.andThen hg3 (fun _ h => .inr h))
    have hl4 := lt_of_block hz3
    have HZ3 := Lib.hid hz3
    clear hg3 hz3 HG2 HZ2 HY2
    generalize drawOf l (at1 + 1) 2 = d1 at *
    have q0 := draw_low l (at1 + 1 + 1) 3 (by omega)
    have q1 := draw_high l (at1 + 1 + 1) 3 (by omega)
    go_wp2_with fail
    refine (next_any b A cap l (at1 + 1 + 1) 3 _ (hs3.alloc _) (by omega) (by omega) (by omega)).mono ?_
    rintro e w4 ⟨rfl, hs4, hg4⟩
    have hz4 := (hg4.block w.heap.size (by simp; omega) (fun e => by injection e with e; omega)).trans ((heap_alloc_old w3 _ hl4).trans HZ3.out)
    have hv := u64_at (vs := ([4294967296, 5, 1099511627776] : List Int)) (heap_alloc_new w3 _) hg4 (fun e => by injection e with e; have := hs3.lt; omega) (k := (drawOf l (at1 + 1 + 1) 3).toNat) (by simp; omega)
    generalize ([4294967296, 5, 1099511627776] : List Int).getD (drawOf l (at1 + 1 + 1) 3).toNat 0 = vv at hv
    generalize drawOf l (at1 + 1 + 1) 3 = d2 at *
    have HG4 := Lib.hid (HG3.out.andThen (grown_alloc_then hg4) (fun _ h => .inr h))
    have hl5 := lt_of_block hz4
    have HZ4 := Lib.hid hz4
    obtain ⟨z0, z1, z2, zf0, zf1, zf2⟩ := res3 hz4
    have HI2 := Lib.hid p0
    clear hg4 hz4 HG3 HZ3
    go_wp2_with fail
    clear z0 z1 z2 hv
    generalize hW : World.setCell _ _ _ = W9
    obtain ⟨hr, hS9, hG9⟩ := addr_fin hbl HZ4.out hs4 HG4.out hW
    obtain ⟨y0, y1, y2, -, -, -⟩ := res3 hr
    refine bodyPost_ret (v := .agg #[.bool false, .int .u64 d1, .int .u64 vv]) (by simp [results, Tryz.results34, go_sem, y0, y1, y2]) rfl ⟨false, d1, vv, rfl, HI2.out, str_mono hS9 hG9 (by omega) (by omega)⟩
end Go.Proofs.YtedpjecbfcogcaaGreatDoor
