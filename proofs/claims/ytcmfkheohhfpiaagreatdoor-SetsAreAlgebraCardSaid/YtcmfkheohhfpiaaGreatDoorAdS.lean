/- What the stream draws: addresses. Stream.Addr, as a function of what the stream draws. -/
import Derived.Test.YtcmfkheohhfpiaaGreatDoorReA
import Derived.Test.YtcmfkheohhfpiaaGreatDoorChA
import Derived.Test.YtcmfkheohhfpiaaGreatDoorStr
import Derived.Test.YtcmfkheohhfpiaaGreatDoorRange
import Derived.Deep.RegionHeld3
namespace Go.Proofs.YtcmfkheohhfpiaaGreatDoor
open Go.RowKit Go.Hw

/-- A right address. -/
def AddrFine (six : Bool) (hi lo : Int) : Prop := (0 ≤ hi ∧ hi ≤ 18446744073709551615) ∧ (0 ≤ lo ∧ lo ≤ 18446744073709551615) ∧ (six = false → hi = 0 ∧ lo ≤ 4294967295)
theorem AddrFine.code {six : Bool} {hi lo : Int} (h : AddrFine six hi lo) : addrCode six hi lo = 0 := by
  unfold AddrFine at h
  unfold addrCode
  rw [if_neg]
  rintro ⟨h1, h2⟩
  have := h.2.2 h1
  omega
theorem fine_six {hi lo : Int} (h : 0 ≤ hi ∧ hi ≤ 18446744073709551615) (k : 0 ≤ lo ∧ lo ≤ 18446744073709551615) : AddrFine true hi lo := ⟨h, k, fun e => by cases e⟩
theorem fine_four {lo : Int} (h : 0 ≤ lo) (k : lo ≤ 4294967295) : AddrFine false 0 lo := ⟨by omega, by omega, fun _ => ⟨rfl, k⟩⟩
theorem fine_list (k : Nat) : AddrFine false 0 (([0, 1, 4294967295, 2130706433, 3232235521] : List Int).getD k 0) := by
  rcases k with _ | _ | _ | _ | _ | k
  · exact fine_four (by decide) (by decide)
  · exact fine_four (by decide) (by decide)
  · exact fine_four (by decide) (by decide)
  · exact fine_four (by decide) (by decide)
  · exact fine_four (by decide) (by decide)
  · exact fine_four (by simp) (by simp)
def AddrOut (w : World) (b : Nat) (A : Option Addr) (cap : Nat) (l : List Int) (at_ m : Int) (e : Ending) (w' : World) : Prop :=
  ∃ six hi lo, e = .returned (.agg #[.bool six, .int .u64 hi, .int .u64 lo]) ∧ AddrFine six hi lo ∧ StrTo w w' b A cap l at_ m
theorem u64_at {w w' : World} {g : Nat} {vs : List Int} {T : TypeId} {row : Option Nat} (hg : w.heap[g]? = some (.cells (vs.map (Value.int .u64)).toArray T (0, 0))) (hgr : w.grownBy w' row) (hne : some g ≠ row) {k : Nat} (hk : k < vs.length) : w'.cell? ⟨g, k, none⟩ = some (.int .u64 (vs.getD k 0)) := by
  have hb : w'.heap[g]? = w.heap[g]? := hgr.block g (Array.getElem?_eq_some_iff.1 hg).1 hne
  rw [World.cell?_of_block (w := w) hb]
  simp [World.cell?, hg, List.getElem?_eq_getElem hk]
/-- The drawn address is laid into the result. -/
theorem addr_fin {w W W2 : World} {b : Nat} {A : Option Addr} {cap : Nat} {l : List Int} {x : Int} {T : TypeId} {a0 a1 a2 : Value} {v0 v1 v2 : Value} (hb : b < w.heap.size) (hz : W.heap[w.heap.size]? = some (.cells #[a0, a1, a2] T (0, 0)))
    (hS : Str W b A cap l x) (hg : w.grownBy W (some b)) (h : ((W.setCell ⟨w.heap.size, 0, none⟩ v0).setCell ⟨w.heap.size, 1, none⟩ v1).setCell ⟨w.heap.size, 2, none⟩ v2 = W2) :
    W2.heap[w.heap.size]? = some (.cells #[v0, v1, v2] T (0, 0)) ∧ Str W2 b A cap l x ∧ w.grownBy W2 (some b) := by
  have hk : ∀ k, k ≠ w.heap.size → W2.heap[k]? = W.heap[k]? := fun k hk => by
    rw [← h, Below.heap_setCell _ _ _ _ hk, Below.heap_setCell _ _ _ _ hk, Below.heap_setCell _ _ _ _ hk]
  refine ⟨?_, str_other hS hb hk, ⟨?_, ?_, ?_, ?_, fun k hk' hne => (hk k (by omega)).trans (hg.block k hk' hne)⟩⟩
  · have := heap_set (heap_set (heap_set hz 0 v0) 1 v1) 2 v2
    rw [h] at this
    simpa using this
  · rw [← h]; exact hg.os
  · rw [← h]; exact hg.tape
  · rw [← h]; exact hg.output
  · rw [← h]; have := hg.size; simpa using this
end Go.Proofs.YtcmfkheohhfpiaaGreatDoor

namespace Go.Proofs.YtcmfkheohhfpiaaGreatDoor
open Go.RowKit Go.Hw

/-- The address that is drawn, and where the stream is behind it. -/
def addrF (l : List Int) (at_ : Int) : Bool × Int × Int × Int :=
  if drawOf l at_ 6 = 0 then (true, ([0, 18230571291595767808, 2306139568115548160, 9223372036854775808, 18446744073709551615] : List Int).getD (drawOf l (at_ + 1) 5).toNat 0, ([0, 1, 2, 4294967296, 18446744073709551615] : List Int).getD (drawOf l (at_ + 1 + 1) 5).toNat 0, at_ + 1 + 1 + 1)
  else if drawOf l at_ 6 = 1 then (false, 0, ([0, 1, 4294967295, 2130706433, 3232235521] : List Int).getD (drawOf l (at_ + 1) 5).toNat 0, at_ + 1 + 1)
  else if drawOf l at_ 6 = 2 then (false, 0, (0 + drawOf l (at_ + 1) 16777217) * 251 % 4294967296, at_ + 1 + 1)
  else (false, 0, 167772160 + (0 + drawOf l (at_ + 1) 21), at_ + 1 + 1)
theorem addrF_0 {l : List Int} {at_ : Int} (h : drawOf l at_ 6 = 0) : addrF l at_ = (true, ([0, 18230571291595767808, 2306139568115548160, 9223372036854775808, 18446744073709551615] : List Int).getD (drawOf l (at_ + 1) 5).toNat 0, ([0, 1, 2, 4294967296, 18446744073709551615] : List Int).getD (drawOf l (at_ + 1 + 1) 5).toNat 0, at_ + 1 + 1 + 1) := by
  unfold addrF; rw [if_pos h]
theorem addrF_1 {l : List Int} {at_ : Int} (h : drawOf l at_ 6 = 1) : addrF l at_ = (false, 0, ([0, 1, 4294967295, 2130706433, 3232235521] : List Int).getD (drawOf l (at_ + 1) 5).toNat 0, at_ + 1 + 1) := by
  unfold addrF; rw [if_neg (by omega), if_pos h]
theorem addrF_2 {l : List Int} {at_ : Int} (h : drawOf l at_ 6 = 2) : addrF l at_ = (false, 0, (0 + drawOf l (at_ + 1) 16777217) * 251 % 4294967296, at_ + 1 + 1) := by
  unfold addrF; rw [if_neg (by omega), if_neg (by omega), if_pos h]
theorem addrF_3 {l : List Int} {at_ : Int} (h0 : drawOf l at_ 6 ≠ 0) (h1 : drawOf l at_ 6 ≠ 1) (h2 : drawOf l at_ 6 ≠ 2) : addrF l at_ = (false, 0, 167772160 + (0 + drawOf l (at_ + 1) 21), at_ + 1 + 1) := by
  unfold addrF; rw [if_neg h0, if_neg h1, if_neg h2]
/-- Where the stream is behind the call, and what lies there. -/
def StrX (w w' : World) (b : Nat) (A : Option Addr) (cap : Nat) (l : List Int) (at_ m x : Int) : Prop := (at_ ≤ x ∧ x ≤ at_ + m) ∧ Str w' b A cap l x ∧ w.grownBy w' (some b)
theorem strX_mk {w w' : World} {b : Nat} {A : Option Addr} {cap : Nat} {l : List Int} {at_ x m : Int} (hS : Str w' b A cap l x) (hg : w.grownBy w' (some b)) (h0 : at_ ≤ x) (h1 : x ≤ at_ + m) : StrX w w' b A cap l at_ m x := ⟨⟨h0, h1⟩, hS, hg⟩
theorem StrX.to {w w' : World} {b : Nat} {A : Option Addr} {cap : Nat} {l : List Int} {at_ x m : Int} (h : StrX w w' b A cap l at_ m x) : StrTo w w' b A cap l at_ m := ⟨x, h.1.1, h.1.2, h.2.1, h.2.2⟩
def AddrX (w : World) (b : Nat) (A : Option Addr) (cap : Nat) (l : List Int) (at_ m : Int) (e : Ending) (w' : World) : Prop :=
  ∃ six hi lo x, addrF l at_ = (six, hi, lo, x) ∧ e = .returned (.agg #[.bool six, .int .u64 hi, .int .u64 lo]) ∧ AddrFine six hi lo ∧ StrX w w' b A cap l at_ m x
theorem five_get {a b c d e k : Int} (ha : 0 ≤ a ∧ a ≤ 18446744073709551615) (hb : 0 ≤ b ∧ b ≤ 18446744073709551615) (hc : 0 ≤ c ∧ c ≤ 18446744073709551615) (hd : 0 ≤ d ∧ d ≤ 18446744073709551615) (he : 0 ≤ e ∧ e ≤ 18446744073709551615) (h0 : 0 ≤ k) (h1 : k < 5) :
    ((#[Value.int .u64 a, .int .u64 b, .int .u64 c, .int .u64 d, .int .u64 e] : Array Value)[k.toNat]? = some (.int .u64 (([a, b, c, d, e] : List Int).getD k.toNat 0)) ∧ ∀ h, ([Value.int .u64 a, .int .u64 b, .int .u64 c, .int .u64 d, .int .u64 e] : List Value)[k.toNat]'h = .int .u64 (([a, b, c, d, e] : List Int).getD k.toNat 0)) ∧ (0 ≤ ([a, b, c, d, e] : List Int).getD k.toNat 0 ∧ ([a, b, c, d, e] : List Int).getD k.toNat 0 ≤ 18446744073709551615) := by
  have : k.toNat = 0 ∨ k.toNat = 1 ∨ k.toNat = 2 ∨ k.toNat = 3 ∨ k.toNat = 4 := by omega
  generalize k.toNat = j at *
  rcases this with rfl | rfl | rfl | rfl | rfl
  · exact ⟨⟨rfl, fun _ => rfl⟩, ha⟩
  · exact ⟨⟨rfl, fun _ => rfl⟩, hb⟩
  · exact ⟨⟨rfl, fun _ => rfl⟩, hc⟩
  · exact ⟨⟨rfl, fun _ => rfl⟩, hd⟩
  · exact ⟨⟨rfl, fun _ => rfl⟩, he⟩
set_option maxRecDepth 100000 in
set_option maxHeartbeats 4000000 in
theorem addr_det (b : Nat) (A : Option Addr) (cap : Nat) (l : List Int) (at_ : Int) (w : World) (h : Str w b A cap l at_) (hh : at_ < 1099511627000) :
    Calls Tryz.prog 6 #[.pointer (some ⟨b, 0, none⟩)] w (AddrX w b A cap l at_ 3) := by
  have hbl := h.lt
  have q0 := draw_low l at_ 6 (by omega)
  have q1 := draw_high l at_ 6 (by omega)
  have h0 := h.alloc (.cells #[.bool false, .int .u64 0, .int .u64 0] 30)
  go_enter Tryz.func6, Tryz.ntmps6
  go_wp2_with fail
  refine (next_any b A cap l at_ 6 _ h0 (by omega) (by omega) (by omega)).mono ?_
  rintro e w1 ⟨rfl, hs1, hg1⟩
  have HF0 := Lib.hid (fun h => addrF_0 (l := l) (at_ := at_) h)
  have HF1 := Lib.hid (fun h => addrF_1 (l := l) (at_ := at_) h)
  have HF2 := Lib.hid (fun h => addrF_2 (l := l) (at_ := at_) h)
  have HF3 := Lib.hid (fun h0 h1 h2 => addrF_3 (l := l) (at_ := at_) h0 h1 h2)
  generalize drawOf l at_ 6 = dd at *
  have hz := (hg1.block w.heap.size (by simp) (fun e => by injection e with e; omega)).trans (heap_alloc_new w _)
  have hl1 := lt_of_block hz
  have z0 := cell_of hz 0
  have z1 := cell_of hz 1
  have z2 := cell_of hz 2
  simp only [List.getElem?_toArray, List.getElem?_cons_zero, List.getElem?_cons_succ] at z0 z1 z2
  have zf : ∀ j, w1.frozen? ⟨w.heap.size, j, none⟩ = false := fun j => by simp [World.frozen?, hz]
  have zf0 := zf 0
  have zf1 := zf 1
  have zf2 := zf 2
  have HG1 := Lib.hid (grown_alloc_then hg1)
  have HS1 := Lib.hid hs1
  have HZ := Lib.hid hz
  clear h h0 hs1 hg1 hz zf
  by_cases c0 : dd = 0
  · subst c0
    have HF := Lib.hid (HF0.out rfl)
    clear HF0 HF1 HF2 HF3
    go_wp2_with fail
    have p0 := draw_low l (at_ + 1) 5 (by omega)
    have p1 := draw_high l (at_ + 1) 5 (by omega)
    have p2 := draw_low l (at_ + 1 + 1) 5 (by omega)
    have p3 := draw_high l (at_ + 1 + 1) 5 (by omega)
    have hcall1 := fun W h => next_any b A cap l (at_ + 1) 5 W h (by omega) (by omega) (by omega)
    have hcall2 := fun W h => next_any b A cap l (at_ + 1 + 1) 5 W h (by omega) (by omega) (by omega)
    obtain ⟨⟨hx1, hy1⟩, hn1⟩ := five_get (a := 0) (b := 18230571291595767808) (c := 2306139568115548160) (d := 9223372036854775808) (e := 18446744073709551615) (by omega) (by omega) (by omega) (by omega) (by omega) p0 p1
    obtain ⟨⟨hx2, hy2⟩, hn2⟩ := five_get (a := 0) (b := 1) (c := 2) (d := 4294967296) (e := 18446744073709551615) (by omega) (by omega) (by omega) (by omega) (by omega) p2 p3
    generalize ([0, 18230571291595767808, 2306139568115548160, 9223372036854775808, 18446744073709551615] : List Int).getD (drawOf l (at_ + 1) 5).toNat 0 = x1 at *
    generalize ([0, 1, 2, 4294967296, 18446744073709551615] : List Int).getD (drawOf l (at_ + 1 + 1) 5).toNat 0 = x2 at *
    generalize drawOf l (at_ + 1) 5 = d1 at *
    generalize drawOf l (at_ + 1 + 1) 5 = d2 at *
    have HN := Lib.hid (And.intro hn1 hn2)
    clear hn1 hn2
    have hbne : w1.heap.size ≠ b := by have := HS1.out.lt; omega
    have hbne1 : w1.heap.size + 1 ≠ b := by have := HS1.out.lt; omega
    have hwb : w.heap.size ≠ b := by omega
    have hl1b : w.heap.size < w1.heap.size + 1 := by omega
    have hl1c : w.heap.size < w1.heap.size + 1 + 1 := by omega
    go_region_with ((go_at_call 27; first | ((refine Calls.mono (hcall1 _ (by first | exact HS1.out.dr | exact (HS1.out.alloc _).dr | exact ((HS1.out.alloc _).alloc _).dr)) ?_); rintro e w2 ⟨rfl, hs2, hg2⟩; have k2 := gcell hg2; have E2 := Lib.hid (show w2.heap[w.heap.size]? = some (.cells #[.bool false, .int .u64 0, .int .u64 0] 30 (0, 0)) from blk_w hg2 (by first | exact HZ.out | exact (heap_alloc_old _ _ hl1).trans HZ.out | exact (heap_alloc_old _ _ (by simp; omega)).trans ((heap_alloc_old _ _ hl1).trans HZ.out)) hwb); have v20 := (res3 E2.out).1; have v21 := (res3 E2.out).2.1; have v22 := (res3 E2.out).2.2.1; have v23 := (res3 E2.out).2.2.2.1; have v24 := (res3 E2.out).2.2.2.2.1; have v25 := (res3 E2.out).2.2.2.2.2; have n2 : w2.heap.size ≠ b := (by have := hs2.lt; omega); have n2b : w2.heap.size + 1 ≠ b := (by have := hs2.lt; omega); (try (have z2 : w1.heap.size < w2.heap.size := (by have := hg2.size; (try simp at this); omega))); (try (have z2' : w1.heap.size + 1 < w2.heap.size := (by have := hg2.size; (try simp at this); omega))); have r2 : w.heap.size < w2.heap.size := (by have := hg2.size; (try simp at this); omega); have r2b : w.heap.size < w2.heap.size + 1 := (by omega); have r2c : w.heap.size < w2.heap.size + 1 + 1 := (by omega); (try (have z2b : w1.heap.size < w2.heap.size + 1 := (by omega))); (try (have z2c : w1.heap.size + 1 < w2.heap.size + 1 := (by omega)))) | ((refine Calls.mono (hcall2 _ (by first | exact hs2 | exact hs2.alloc _ | exact (hs2.alloc _).alloc _)) ?_); rintro e w3 ⟨rfl, hs3, hg3⟩; have k3 := gcell hg3; have e3 := (show w3.heap[w.heap.size]? = some (.cells #[.bool false, .int .u64 0, .int .u64 0] 30 (0, 0)) from blk_w hg3 (by first | exact E2.out | exact (heap_alloc_old _ _ r2).trans E2.out | exact (heap_alloc_old _ _ (by simp; omega)).trans ((heap_alloc_old _ _ r2).trans E2.out)) hwb); have E3 := Lib.hid e3; have v30 := (res3 e3).1; have v31 := (res3 e3).2.1; have v32 := (res3 e3).2.2.1; have v33 := (res3 e3).2.2.2.1; have v34 := (res3 e3).2.2.2.2.1; have v35 := (res3 e3).2.2.2.2.2; clear e3; have n3 : w3.heap.size ≠ b := (by have := hs3.lt; omega); (try (have y2 : w1.heap.size < w3.heap.size := (by have := hg3.size; (try simp at this); omega))); (try (have y2' : w1.heap.size + 1 < w3.heap.size := (by have := hg3.size; (try simp at this); omega))); (try (have y3 : w2.heap.size < w3.heap.size := (by have := hg3.size; (try simp at this); omega))); have r3 : w.heap.size < w3.heap.size := (by have := hg3.size; (try simp at this); omega); have r3b : w.heap.size < w3.heap.size + 1 := (by omega); have r3c : w.heap.size ≤ w3.heap.size := (by omega))))
    all_goals (
      go_wp2_with fail
      have g2 : w1.grownBy w2 (some b) := by first | exact drew_grown hg2 | exact grown_alloc_then (drew_grown hg2) | exact grown_alloc_then (grown_alloc_then (drew_grown hg2))
      have g3 : w2.grownBy w3 (some b) := by first | exact hg3 | exact grown_alloc_then hg3 | exact grown_alloc_then (grown_alloc_then hg3)
      have G3 := (HG1.out.andThen g2 (fun _ h => .inr h)).andThen g3 (fun _ h => .inr h)
      clear g2 g3 v30 v31 v32 v33 v34 v35 k3 v20 v21 v22 v23 v24 v25 k2
      generalize hW : World.setCell _ _ _ = W9
      obtain ⟨hr, hS9, hG9⟩ := addr_fin (T := 30) (a0 := .bool false) (a1 := .int .u64 0) (a2 := .int .u64 0) (A := A) (cap := cap) (l := l) (x := at_ + 1 + 1 + 1) hbl (by first | exact E3.out | exact (heap_alloc_old _ _ r3).trans E3.out | exact (heap_alloc_old _ _ (by simp; omega)).trans ((heap_alloc_old _ _ r3).trans E3.out)) (by first | exact hs3 | exact hs3.alloc _ | exact (hs3.alloc _).alloc _) (by first | exact G3 | exact G3.andThen (World.grownBy_alloc _ _ (some b)) (fun _ h => .inr h) | exact (G3.andThen (World.grownBy_alloc _ _ (some b)) (fun _ h => .inr h)).andThen (World.grownBy_alloc _ _ (some b)) (fun _ h => .inr h)) hW
      have y0 := cell_of hr 0
      have y1 := cell_of hr 1
      have y2 := cell_of hr 2
      simp only [List.getElem?_toArray, List.getElem?_cons_zero, List.getElem?_cons_succ] at y0 y1 y2
      have u0 : ∀ o, (W9.alloc o).cell? ⟨w.heap.size, 0, none⟩ = some (.bool true) := fun o => (World.cell?_of_block (w := W9) (heap_alloc_old W9 o (lt_of_block hr))).trans y0
      have u1 : ∀ o, (W9.alloc o).cell? ⟨w.heap.size, 1, none⟩ = some (.int .u64 x1) := fun o => (World.cell?_of_block (w := W9) (heap_alloc_old W9 o (lt_of_block hr))).trans y1
      have u2 : ∀ o, (W9.alloc o).cell? ⟨w.heap.size, 2, none⟩ = some (.int .u64 x2) := fun o => (World.cell?_of_block (w := W9) (heap_alloc_old W9 o (lt_of_block hr))).trans y2
      have t0 : ∀ o o', ((W9.alloc o).alloc o').cell? ⟨w.heap.size, 0, none⟩ = some (.bool true) := fun o o' => (World.cell?_of_block (w := W9.alloc o) (heap_alloc_old _ o' (by have := lt_of_block hr; simp; omega))).trans (u0 o)
      have t1 : ∀ o o', ((W9.alloc o).alloc o').cell? ⟨w.heap.size, 1, none⟩ = some (.int .u64 x1) := fun o o' => (World.cell?_of_block (w := W9.alloc o) (heap_alloc_old _ o' (by have := lt_of_block hr; simp; omega))).trans (u1 o)
      have t2 : ∀ o o', ((W9.alloc o).alloc o').cell? ⟨w.heap.size, 2, none⟩ = some (.int .u64 x2) := fun o o' => (World.cell?_of_block (w := W9.alloc o) (heap_alloc_old _ o' (by have := lt_of_block hr; simp; omega))).trans (u2 o)
      have hM : StrX w W9 b A cap l at_ 3 (at_ + 1 + 1 + 1) := strX_mk hS9 hG9 (by omega) (by omega)
      have hM2 : ∀ o, StrX w (W9.alloc o) b A cap l at_ 3 (at_ + 1 + 1 + 1) := fun o => strX_mk (hS9.alloc o) (hG9.andThen (World.grownBy_alloc _ _ (some b)) (fun _ h => .inr h)) (by omega) (by omega)
      have hM3 : ∀ o o', StrX w ((W9.alloc o).alloc o') b A cap l at_ 3 (at_ + 1 + 1 + 1) := fun o o' => strX_mk ((hS9.alloc o).alloc o') ((hG9.andThen (World.grownBy_alloc _ _ (some b)) (fun _ h => .inr h)).andThen (World.grownBy_alloc _ _ (some b)) (fun _ h => .inr h)) (by omega) (by omega)
      clear hS9 hG9 G3 hs3 hs2 hr
      first
        | (refine bodyPost_ret (v := .agg #[.bool true, .int .u64 x1, .int .u64 x2]) (by simp [results, Tryz.results6, go_sem, y0, y1, y2]) rfl ⟨true, x1, x2, _, HF.out, rfl, fine_six HN.out.1 HN.out.2, hM⟩)
        | (refine bodyPost_ret (v := .agg #[.bool true, .int .u64 x1, .int .u64 x2]) (by simp [results, Tryz.results6, go_sem, u0, u1, u2]) rfl ⟨true, x1, x2, _, HF.out, rfl, fine_six HN.out.1 HN.out.2, hM2 _⟩)
        | (refine bodyPost_ret (v := .agg #[.bool true, .int .u64 x1, .int .u64 x2]) (by simp [results, Tryz.results6, go_sem, t0, t1, t2]) rfl ⟨true, x1, x2, _, HF.out, rfl, fine_six HN.out.1 HN.out.2, hM3 _ _⟩))
  · have e0 : (dd == 0) = false := by simpa using c0
    by_cases c1 : dd = 1
    · subst c1
      clear c0
      have HF := Lib.hid (HF1.out rfl)
      clear HF0 HF1 HF2 HF3
      have q2 := draw_low l (at_ + 1) 5 (by omega)
      have q3 := draw_high l (at_ + 1) 5 (by omega)
      go_wp2_with fail
      refine (next_any b A cap l (at_ + 1) 5 _ (HS1.out.alloc _) (by omega) (by omega) (by omega)).mono ?_
      rintro e w2 ⟨rfl, hs2, hg2⟩
      have hzz := (hg2.block w.heap.size (by simp; omega) (fun e => by injection e with e; omega)).trans ((heap_alloc_old w1 _ hl1).trans HZ.out)
      have hv := u64_at (vs := ([0, 1, 4294967295, 2130706433, 3232235521] : List Int)) (heap_alloc_new w1 _) hg2 (fun e => by injection e with e; have := HS1.out.lt; omega) (k := (drawOf l (at_ + 1) 5).toNat) (by simp; omega)
      have hvv := fine_list (drawOf l (at_ + 1) 5).toNat
      generalize ([0, 1, 4294967295, 2130706433, 3232235521] : List Int).getD (drawOf l (at_ + 1) 5).toNat 0 = vv at hv hvv HF
      have HV := Lib.hid hvv
      clear hvv
      generalize drawOf l (at_ + 1) 5 = dd2 at *
      have hl2 := lt_of_block hzz
      have y0 := cell_of hzz 0
      have y1 := cell_of hzz 1
      have y2 := cell_of hzz 2
      simp only [List.getElem?_toArray, List.getElem?_cons_zero, List.getElem?_cons_succ] at y0 y1 y2
      have yf : ∀ j, w2.frozen? ⟨w.heap.size, j, none⟩ = false := fun j => by simp [World.frozen?, hzz]
      have yf0 := yf 0
      have yf1 := yf 1
      have yf2 := yf 2
      have HZ2 := Lib.hid hzz
      have HS2 := Lib.hid hs2
      have HG2 := Lib.hid (HG1.out.andThen (grown_alloc_then hg2) (fun _ h => .inr h))
      clear hzz yf hs2 hg2 z0 z1 z2 zf0 zf1 zf2
      go_wp2_with fail
      clear y0 y1 y2
      generalize hW : World.setCell _ _ _ = W9
      obtain ⟨hr, hS9, hG9⟩ := addr_fin hbl HZ2.out HS2.out HG2.out hW
      have y0 := cell_of hr 0
      have y1 := cell_of hr 1
      have y2 := cell_of hr 2
      simp only [List.getElem?_toArray, List.getElem?_cons_zero, List.getElem?_cons_succ] at y0 y1 y2
      refine bodyPost_ret (v := .agg #[.bool false, .int .u64 0, .int .u64 vv]) (by simp [results, Tryz.results6, go_sem, y0, y1, y2]) rfl ⟨false, 0, vv, _, HF.out, rfl, HV.out, strX_mk hS9 hG9 (by omega) (by omega)⟩
    · have e1 : (dd == 1) = false := by simpa using c1
      by_cases c2 : dd = 2
      · subst c2
        clear c0 c1
        have HF := Lib.hid (HF2.out rfl)
        clear HF0 HF1 HF2 HF3
        have q2 := draw_low l (at_ + 1) 16777217 (by omega)
        have q3 := draw_high l (at_ + 1) 16777217 (by omega)
        go_wp2_with fail
        refine (range_any b A cap l (at_ + 1) 0 16777216 _ HS1.out (by omega) (by omega) (by omega) (by omega) (by omega)).mono ?_
        rintro e w2 ⟨rfl, hs2, hg2⟩
        rw [show (16777216 : Int) - 0 + 1 = 16777217 by omega]
        have hzz := (hg2.block w.heap.size hl1 (fun e => by injection e with e; omega)).trans HZ.out
        generalize drawOf l (at_ + 1) 16777217 = dd2 at *
        have hl2 := lt_of_block hzz
        have y0 := cell_of hzz 0
        have y1 := cell_of hzz 1
        have y2 := cell_of hzz 2
        simp only [List.getElem?_toArray, List.getElem?_cons_zero, List.getElem?_cons_succ] at y0 y1 y2
        have yf : ∀ j, w2.frozen? ⟨w.heap.size, j, none⟩ = false := fun j => by simp [World.frozen?, hzz]
        have yf0 := yf 0
        have yf1 := yf 1
        have yf2 := yf 2
        have HZ2 := Lib.hid hzz
        have HS2 := Lib.hid hs2
        have HG2 := Lib.hid (HG1.out.andThen hg2 (fun _ h => .inr h))
        clear hzz yf hs2 hg2 z0 z1 z2 zf0 zf1 zf2
        go_wp2_with fail
        clear y0 y1 y2
        generalize hW : World.setCell _ _ _ = W9
        obtain ⟨hr, hS9, hG9⟩ := addr_fin hbl HZ2.out HS2.out HG2.out hW
        have y0 := cell_of hr 0
        have y1 := cell_of hr 1
        have y2 := cell_of hr 2
        simp only [List.getElem?_toArray, List.getElem?_cons_zero, List.getElem?_cons_succ] at y0 y1 y2
        refine bodyPost_ret (v := .agg #[.bool false, .int .u64 0, .int .u64 ((0 + dd2) * 251 % 4294967296)]) (by simp [results, Tryz.results6, go_sem, y0, y1, y2]) rfl ⟨false, 0, ((0 + dd2) * 251 % 4294967296), _, HF.out, rfl, fine_four (by omega) (by omega), strX_mk hS9 hG9 (by omega) (by omega)⟩
      · have e2 : (dd == 2) = false := by simpa using c2
        have HF := Lib.hid (HF3.out c0 c1 c2)
        clear c0 c1 c2 HF0 HF1 HF2 HF3
        have q2 := draw_low l (at_ + 1) 21 (by omega)
        have q3 := draw_high l (at_ + 1) 21 (by omega)
        go_wp2_with fail
        refine (range_any b A cap l (at_ + 1) 0 20 _ HS1.out (by omega) (by omega) (by omega) (by omega) (by omega)).mono ?_
        rintro e w2 ⟨rfl, hs2, hg2⟩
        rw [show (20 : Int) - 0 + 1 = 21 by omega]
        have hzz := (hg2.block w.heap.size hl1 (fun e => by injection e with e; omega)).trans HZ.out
        generalize drawOf l (at_ + 1) 21 = dd2 at *
        have hl2 := lt_of_block hzz
        have y0 := cell_of hzz 0
        have y1 := cell_of hzz 1
        have y2 := cell_of hzz 2
        simp only [List.getElem?_toArray, List.getElem?_cons_zero, List.getElem?_cons_succ] at y0 y1 y2
        have yf : ∀ j, w2.frozen? ⟨w.heap.size, j, none⟩ = false := fun j => by simp [World.frozen?, hzz]
        have yf0 := yf 0
        have yf1 := yf 1
        have yf2 := yf 2
        have HZ2 := Lib.hid hzz
        have HS2 := Lib.hid hs2
        have HG2 := Lib.hid (HG1.out.andThen hg2 (fun _ h => .inr h))
        clear hzz yf hs2 hg2 z0 z1 z2 zf0 zf1 zf2
        go_wp2_with fail
        clear y0 y1 y2
        generalize hW : World.setCell _ _ _ = W9
        obtain ⟨hr, hS9, hG9⟩ := addr_fin hbl HZ2.out HS2.out HG2.out hW
        have y0 := cell_of hr 0
        have y1 := cell_of hr 1
        have y2 := cell_of hr 2
        simp only [List.getElem?_toArray, List.getElem?_cons_zero, List.getElem?_cons_succ] at y0 y1 y2
        refine bodyPost_ret (v := .agg #[.bool false, .int .u64 0, .int .u64 (167772160 + (0 + dd2))]) (by simp [results, Tryz.results6, go_sem, y0, y1, y2]) rfl ⟨false, 0, (167772160 + (0 + dd2)), _, HF.out, rfl, fine_four (by omega) (by omega), strX_mk hS9 hG9 (by omega) (by omega)⟩
end Go.Proofs.YtcmfkheohhfpiaaGreatDoor
