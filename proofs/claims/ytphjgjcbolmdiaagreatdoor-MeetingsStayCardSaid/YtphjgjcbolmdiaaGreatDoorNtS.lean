/- Translators: what the stream draws: any addresses, ends of packets, translators. -/
import Derived.Test.YtphjgjcbolmdiaaGreatDoorAddr
import Derived.Test.YtphjgjcbolmdiaaGreatDoorNtR
namespace Go.Proofs.YtphjgjcbolmdiaaGreatDoor
open Go.RowKit Go.Hw

/-- Like AddrOut, of an address that need not be right. -/
def RawOut (w : World) (b : Nat) (A : Option Addr) (cap : Nat) (l : List Int) (at_ m : Int) (e : Ending) (w' : World) : Prop :=
  ∃ six hi lo, e = .returned (.agg #[.bool six, .int .u64 hi, .int .u64 lo]) ∧ 0 ≤ hi ∧ StrTo w w' b A cap l at_ m
def SpotOut (w : World) (b : Nat) (A : Option Addr) (cap : Nat) (l : List Int) (at_ m : Int) (e : Ending) (w' : World) : Prop :=
  ∃ s : Spot, e = .returned (.agg #[.bool s.six, .int .u64 s.hi, .int .u64 s.lo, .int .i64 s.port]) ∧ 0 ≤ s.hi ∧ StrTo w w' b A cap l at_ m
def NatOut (w : World) (b : Nat) (A : Option Addr) (cap : Nat) (l : List Int) (at_ m : Int) (e : Ending) (w' : World) : Prop :=
  ∃ n : NatC, e = .returned (.agg #[.int .i64 n.maps, .int .i64 n.lets, .int .i64 n.timeout, .int .i64 n.first, .int .i64 n.ports, .bool n.six, .int .u64 n.hi, .int .u64 n.lo]) ∧ 0 ≤ n.hi ∧ StrTo w w' b A cap l at_ m

theorem grown_of_box {w W : World} {b : Nat} {o : Obj} (h : w.grownBy W (some b)) : w.grownBy (W.alloc o) (some b) := h.andThen (World.grownBy_alloc _ _ (some b)) (fun _ h => .inr h)
/-- A block of three cells is laid anew. -/
theorem set3 {W W2 : World} {R : Nat} {a0 a1 a2 v0 v1 v2 : Value} {T : TypeId} (hz : W.heap[R]? = some (.cells #[a0, a1, a2] T (0, 0))) (h : ((W.setCell ⟨R, 0, none⟩ v0).setCell ⟨R, 1, none⟩ v1).setCell ⟨R, 2, none⟩ v2 = W2) :
    W2.heap[R]? = some (.cells #[v0, v1, v2] T (0, 0)) ∧ ∀ k, k ≠ R → W2.heap[k]? = W.heap[k]? := by
  refine ⟨?_, fun k hk => ?_⟩
  · have := heap_set (heap_set (heap_set hz 0 v0) 1 v1) 2 v2
    rw [h] at this
    simpa using this
  · rw [← h, Below.heap_setCell _ _ _ _ hk, Below.heap_setCell _ _ _ _ hk, Below.heap_setCell _ _ _ _ hk]
/-- A new block is laid anew: the rest of memory grows as it did. -/
theorem grown_other {w W W2 : World} {b R : Nat} (hg : w.grownBy W (some b)) (hR : w.heap.size ≤ R) (ho : W2.os = W.os) (ht : W2.tape = W.tape) (hp : W2.output = W.output) (hs : W2.heap.size = W.heap.size) (hk : ∀ k, k ≠ R → W2.heap[k]? = W.heap[k]?) : w.grownBy W2 (some b) :=
  ⟨by rw [ho]; exact hg.os, by rw [ht]; exact hg.tape, by rw [hp]; exact hg.output, by rw [hs]; exact hg.size, fun k hk' hne => (hk k (by omega)).trans (hg.block k hk' hne)⟩

set_option maxRecDepth 100000 in
set_option maxHeartbeats 2000000 in
theorem raw_any (b : Nat) (A : Option Addr) (cap : Nat) (l : List Int) (at_ : Int) (w : World) (h : Str w b A cap l at_) (hh : at_ < 1099511627000) :
    Calls Tryz.prog 21 #[.pointer (some ⟨b, 0, none⟩)] w (RawOut w b A cap l at_ 10) := by
  have hbl := h.lt
  have h0 := h.alloc (.cells #[.bool false, .int .u64 0, .int .u64 0] 28)
  have l0 := h.low
  go_enter Tryz.func21, Tryz.ntmps21
  go_wp2_with fail
  refine (addr_any b A cap l at_ _ h0 hh).mono ?_
  rintro e w1 ⟨six, hi, lo, rfl, hfine, at1, ha1, ha2, hs1, hg1⟩
  have hhi : 0 ≤ hi := by unfold AddrFine at hfine; omega
  have hz := (hg1.block w.heap.size (by simp) (fun e => by injection e with e; omega)).trans (heap_alloc_new w _)
  have hl1 := lt_of_block hz
  have HG1 := Lib.hid (grown_alloc_then hg1)
  have HZ := Lib.hid hz
  have HI := Lib.hid hhi
  clear hfine hg1 hz h h0 hhi
  go_wp2_with fail
  refine (flip_any b A cap l at1 15 _ (hs1.alloc _) (by omega) (by omega) (by omega)).mono ?_
  rintro e w2 ⟨rfl, hs2, hg2⟩
  have hz2 := (hg2.block w.heap.size (by simp; omega) (fun e => by injection e with e; omega)).trans ((heap_alloc_old w1 _ hl1).trans HZ.out)
  have hy2 := (hg2.block w1.heap.size (by simp) (fun e => by injection e with e; have := hs1.lt; omega)).trans (heap_alloc_new w1 _)
  have HG2 := Lib.hid (HG1.out.andThen (grown_alloc_then hg2) (fun _ h => .inr h))
  have hl2 := lt_of_block hz2
  have HZ2 := Lib.hid hz2
  have HY2 := Lib.hid hy2
  have hl3 := lt_of_block hy2
  clear hg2 hz2 hy2 HG1 HZ
  generalize hfl : (drawOf l at1 15 == 0) = fl
  clear hfl
  cases fl
  · obtain ⟨z0, z1, z2, zf0, zf1, zf2⟩ := res3 HZ2.out
    obtain ⟨y0, y1, y2, -, -, -⟩ := res3 HY2.out
    go_wp2_with fail
    clear z0 z1 z2 y0 y1 y2
    generalize hW : World.setCell _ _ _ = W9
    obtain ⟨hr, hS9, hG9⟩ := addr_fin hbl HZ2.out hs2 HG2.out hW
    obtain ⟨y0, y1, y2, -, -, -⟩ := res3 hr
    refine bodyPost_ret (v := .agg #[.bool six, .int .u64 hi, .int .u64 lo]) (by simp [results, Tryz.results21, go_sem, y0, y1, y2]) rfl ⟨six, hi, lo, rfl, HI.out, str_mono hS9 hG9 (by omega) (by omega)⟩
  · go_wp2_with fail
    have p0 := draw_low l (at1 + 1) 2 (by omega)
    have p1 := draw_high l (at1 + 1) 2 (by omega)
    refine (next_any b A cap l (at1 + 1) 2 _ hs2 (by omega) (by omega) (by omega)).mono ?_
    rintro e w3 ⟨rfl, hs3, hg3⟩
    have hz3 := (hg3.block w.heap.size hl2 (fun e => by injection e with e; omega)).trans HZ2.out
    have HG3 := Lib.hid (HG2.out.andThen hg3 (fun _ h => .inr h))
    have hl4 := lt_of_block hz3
    have HZ3 := Lib.hid hz3
    clear hg3 hz3 HG2 HZ2 HY2
    generalize drawOf l (at1 + 1) 2 = d1 at *
    have q0 := draw_low l (at1 + 1 + 1) 3 (by omega)
    have q1 := draw_high l (at1 + 1 + 1) 3 (by omega)
    go_wp2_with fail
    refine (next_any b A cap l (at1 + 1 + 1) 3 _ (hs3.alloc _) (by omega) (by omega) (by omega)).mono ?_
    rintro e w4 ⟨rfl, hs4, hg4⟩
    have hz4 := (hg4.block w.heap.size (by simp; omega) (fun e => by injection e with e; omega)).trans ((heap_alloc_old w3 _ hl4).trans HZ3.out)
    have hv := u64_at (vs := ([4294967296, 5, 1099511627776] : List Int)) (heap_alloc_new w3 _) hg4 (fun e => by injection e with e; have := hs3.lt; omega) (k := (drawOf l (at1 + 1 + 1) 3).toNat) (by simp; omega)
    generalize ([4294967296, 5, 1099511627776] : List Int).getD (drawOf l (at1 + 1 + 1) 3).toNat 0 = vv at hv
    generalize drawOf l (at1 + 1 + 1) 3 = d2 at *
    have HG4 := Lib.hid (HG3.out.andThen (grown_alloc_then hg4) (fun _ h => .inr h))
    have hl5 := lt_of_block hz4
    have HZ4 := Lib.hid hz4
    obtain ⟨z0, z1, z2, zf0, zf1, zf2⟩ := res3 hz4
    have HI2 := Lib.hid p0
    clear hg4 hz4 HG3 HZ3
    go_wp2_with fail
    clear z0 z1 z2 hv
    generalize hW : World.setCell _ _ _ = W9
    obtain ⟨hr, hS9, hG9⟩ := addr_fin hbl HZ4.out hs4 HG4.out hW
    obtain ⟨y0, y1, y2, -, -, -⟩ := res3 hr
    refine bodyPost_ret (v := .agg #[.bool false, .int .u64 d1, .int .u64 vv]) (by simp [results, Tryz.results21, go_sem, y0, y1, y2]) rfl ⟨false, d1, vv, rfl, HI2.out, str_mono hS9 hG9 (by omega) (by omega)⟩

set_option maxRecDepth 100000 in
set_option maxHeartbeats 2000000 in
theorem spot_any (b : Nat) (A : Option Addr) (cap : Nat) (l : List Int) (at_ : Int) (w : World) (h : Str w b A cap l at_) (hh : at_ < 1099511626000) :
    Calls Tryz.prog 11 #[.pointer (some ⟨b, 0, none⟩)] w (SpotOut w b A cap l at_ 20) := by
  have hbl := h.lt
  have h0 := h.alloc (.cells #[.bool false, .int .u64 0, .int .u64 0, .int .i64 0] 42)
  have l0 := h.low
  have p0 := draw_low l at_ 3 (by omega)
  have p1 := draw_high l at_ 3 (by omega)
  go_enter Tryz.func11, Tryz.ntmps11
  go_wp2_with fail
  refine (range_any b A cap l at_ 5 7 _ h0 (by omega) (by omega) (by omega) (by omega) (by omega)).mono ?_
  rintro e w1 ⟨rfl, hs1, hg1⟩
  rw [show (7 : Int) - 5 + 1 = 3 by omega]
  generalize drawOf l at_ 3 = d0 at *
  have HG1 := Lib.hid (grown_alloc_then hg1)
  have HZ := Lib.hid ((hg1.block w.heap.size (by simp) (fun e => by injection e with e; omega)).trans (heap_alloc_new w _))
  have hl1 := lt_of_block HZ.out
  clear hg1 h h0
  go_wp2_with fail
  refine (at_any (5 + d0) _ (by omega) (by omega)).mono ?_
  rintro e w2 ⟨rfl, hb2⟩
  have hs2 := hs1.grown (grownB hb2 none) (fun k e => by cases e)
  have HG2 := Lib.hid (HG1.out.andThen (grownB hb2 (some b)) (fun _ h => .inr h))
  have HZ2 := Lib.hid ((hb2.block w.heap.size hl1).trans HZ.out)
  have hl2 := lt_of_block HZ2.out
  clear hb2 HG1 HZ hs1
  go_wp2_with fail
  refine (pick_any b A cap l (at_ + 1) _ (hs2.alloc _) (by omega) w2.heap.size [80, 80, 443, 1000] (by rw [heap_alloc_new]; rfl) (by have := hs2.lt; omega) (by simp) (by simp) 4 4 rfl).mono ?_
  rintro e w3 ⟨rfl, hs3, hg3⟩
  have HG3 := Lib.hid (HG2.out.andThen (grown_alloc_then hg3) (fun _ h => .inr h))
  have HZ3 := Lib.hid ((hg3.block w.heap.size (by simp; omega) (fun e => by injection e with e; omega)).trans ((heap_alloc_old w2 _ hl2).trans HZ2.out))
  have hl3 := lt_of_block HZ3.out
  generalize ([80, 80, 443, 1000] : List Int).getD (drawOf l (at_ + 1) ([80, 80, 443, 1000] : List Int).length).toNat 0 = pp
  clear hg3 HG2 HZ2 hs2
  go_wp2_with fail
  refine (flip_any b A cap l (at_ + 1 + 1) 40 _ (hs3.alloc _) (by omega) (by omega) (by omega)).mono ?_
  rintro e w4 ⟨rfl, hs4, hg4⟩
  have HG4 := Lib.hid (HG3.out.andThen (grown_alloc_then hg4) (fun _ h => .inr h))
  have HZ4 := Lib.hid ((hg4.block w.heap.size (by simp; omega) (fun e => by injection e with e; omega)).trans ((heap_alloc_old w3 _ hl3).trans HZ3.out))
  have HY4 := Lib.hid ((hg4.block w3.heap.size (by simp) (fun e => by injection e with e; have := hs3.lt; omega)).trans (heap_alloc_new w3 _))
  have hl4 := lt_of_block HZ4.out
  have hl5 := lt_of_block HY4.out
  have hne : w3.heap.size ≠ b := by have := hs3.lt; omega
  have hnr : w3.heap.size ≠ w.heap.size := by omega
  clear hg4 HG3 HZ3 hs3
  generalize (drawOf l (at_ + 1 + 1) 40 == 0) = fl
  generalize w3.heap.size = R3 at *
  cases fl
  · obtain ⟨⟨z0, z1, z2, z3⟩, zf0, zf1, zf2, zf3⟩ := res4 HZ4.out
    obtain ⟨⟨y0, y1, y2, y3⟩, -⟩ := res4 HY4.out
    go_wp2_with fail
    clear z0 z1 z2 z3 y0 y1 y2 y3
    generalize hW : World.setCell _ _ _ = W9
    have hr := re4 HZ4.out hW
    obtain ⟨⟨y0, y1, y2, y3⟩, -⟩ := res4 hr.blk
    refine bodyPost_ret (v := .agg #[.bool false, .int .u64 0, .int .u64 (1681915904 + (5 + d0)), .int .i64 pp]) (by simp [results, Tryz.results11, go_sem, y0, y1, y2, y3]) rfl ⟨⟨false, 0, 1681915904 + (5 + d0), pp⟩, rfl, (by simp), str_mono (hr.str hs4 hbl) (hr.grown HG4.out (.inl (Nat.le_refl _))) (by omega) (by omega)⟩
  · go_wp2_with fail
    refine (raw_any b A cap l _ _ hs4 (by omega)).mono ?_
    rintro e w5 ⟨six, hi, lo, rfl, hhi, at5, ha1, ha2, hs5, hg5⟩
    have HG5 := Lib.hid (HG4.out.andThen hg5 (fun _ h => .inr h))
    have HZ5 := Lib.hid ((hg5.block w.heap.size hl4 (fun e => by injection e with e; omega)).trans HZ4.out)
    have HY5 := Lib.hid ((hg5.block R3 hl5 (fun e => by injection e with e; omega)).trans HY4.out)
    have hl6 := lt_of_block HZ5.out
    have hl7 := lt_of_block HY5.out
    clear hg5 HG4 HZ4 HY4 hs4
    go_wp2_with fail
    refine (odd_any b A cap l at5 1 65535 _ hs5 (by omega) (by omega) (by omega) (by omega)).mono ?_
    rintro e w6 ⟨rfl, hs6, hg6⟩
    have HG6 := Lib.hid (HG5.out.andThen hg6 (fun _ h => .inr h))
    have HZ6 := Lib.hid ((hg6.block w.heap.size hl6 (fun e => by injection e with e; omega)).trans HZ5.out)
    have HY6 := Lib.hid ((hg6.block R3 hl7 (fun e => by injection e with e; omega)).trans HY5.out)
    generalize oddOf l at5 1 65535 = oo
    clear hg6 HG5 HZ5 HY5 hs5
    obtain ⟨⟨z0, z1, z2, z3⟩, zf0, zf1, zf2, zf3⟩ := res4 HZ6.out
    obtain ⟨⟨y0, y1, y2, y3⟩, yf0, yf1, yf2, yf3⟩ := res4 HY6.out
    go_wp2_with fail
    clear z0 z1 z2 z3 y0 y1 y2 y3 zf0 zf1 zf2 zf3 yf0 yf1 yf2 yf3
    generalize hW : World.setCell _ _ _ = W9
    obtain ⟨W7, h7⟩ : ∃ W7, (((w6.setCell ⟨R3, 0, none⟩ (.bool six)).setCell ⟨R3, 1, none⟩ (.int .u64 hi)).setCell ⟨R3, 2, none⟩ (.int .u64 lo)).setCell ⟨R3, 3, none⟩ (.int .i64 oo) = W7 := ⟨_, rfl⟩
    rw [h7] at hW
    have r1 := re4 HY6.out h7
    have hr := re4 ((r1.oth w.heap.size hnr.symm).trans HZ6.out) hW
    obtain ⟨⟨y0, y1, y2, y3⟩, -⟩ := res4 hr.blk
    have hRb : b < R3 := by omega
    refine bodyPost_ret (v := .agg #[.bool six, .int .u64 hi, .int .u64 lo, .int .i64 oo]) (by simp [results, Tryz.results11, go_sem, y0, y1, y2, y3]) rfl ⟨⟨six, hi, lo, oo⟩, rfl, hhi, str_mono (hr.str (r1.str hs6 hRb) hbl) (hr.grown (r1.grown HG6.out (.inl (by omega))) (.inl (Nat.le_refl _))) (by omega) (by omega)⟩

set_option maxRecDepth 100000 in
set_option maxHeartbeats 4000000 in
theorem nat_any (b : Nat) (A : Option Addr) (cap : Nat) (l : List Int) (at_ : Int) (w : World) (h : Str w b A cap l at_) (hh : at_ < 1099511626000) :
    Calls Tryz.prog 5 #[.pointer (some ⟨b, 0, none⟩)] w (NatOut w b A cap l at_ 40) := by
  have hbl := h.lt
  have h0 := h.alloc (.cells #[.int .i64 0, .int .i64 0, .int .i64 0, .int .i64 0, .int .i64 0, .bool false, .int .u64 0, .int .u64 0] 30)
  have l0 := h.low
  go_enter Tryz.func5, Tryz.ntmps5
  go_wp2_with fail
  refine (range_any b A cap l at_ 1 3 _ h0 (by omega) (by omega) (by omega) (by omega) (by omega)).mono ?_
  rintro e w1 ⟨rfl, hs1, hg1⟩
  generalize hd1 : 1 + drawOf l at_ (3 - 1 + 1) = k1
  have HG1 := Lib.hid (grown_alloc_then hg1)
  have HZ1 := Lib.hid ((hg1.block w.heap.size (by simp) (fun e => by injection e with e; omega)).trans (heap_alloc_new w _))
  have hl1 := lt_of_block HZ1.out
  clear hg1 h h0 hd1
  go_wp2_with fail
  refine (range_any b A cap l (at_ + 1) 1 3 _ hs1 (by omega) (by omega) (by omega) (by omega) (by omega)).mono ?_
  rintro e w2 ⟨rfl, hs2, hg2⟩
  generalize hd2 : 1 + drawOf l (at_ + 1) (3 - 1 + 1) = k2
  have HG2 := Lib.hid (HG1.out.andThen hg2 (fun _ h => .inr h))
  have HZ2 := Lib.hid ((hg2.block w.heap.size hl1 (fun e => by injection e with e; omega)).trans HZ1.out)
  have hl2 := lt_of_block HZ2.out
  clear hg2 hd2 HG1 HZ1 hs1
  go_wp2_with fail
  refine (pick_any b A cap l (at_ + 1 + 1) _ (hs2.alloc _) (by omega) w2.heap.size [1, 2, 5, 30] (by rw [heap_alloc_new]; rfl) (by have := hs2.lt; omega) (by simp) (by simp) 4 4 rfl).mono ?_
  rintro e w3 ⟨rfl, hs3, hg3⟩
  generalize ([1, 2, 5, 30] : List Int).getD (drawOf l (at_ + 1 + 1) ([1, 2, 5, 30] : List Int).length).toNat 0 = k3
  have HG3 := Lib.hid (HG2.out.andThen (grown_alloc_then hg3) (fun _ h => .inr h))
  have HZ3 := Lib.hid ((hg3.block w.heap.size (by simp; omega) (fun e => by injection e with e; omega)).trans ((heap_alloc_old w2 _ hl2).trans HZ2.out))
  have hl3 := lt_of_block HZ3.out
  clear hg3 HG2 HZ2 hs2
  go_wp2_with fail
  refine (pick_any b A cap l (at_ + 1 + 1 + 1) _ (hs3.alloc _) (by omega) w3.heap.size [1, 5000, 65530] (by rw [heap_alloc_new]; rfl) (by have := hs3.lt; omega) (by simp) (by simp) 3 3 rfl).mono ?_
  rintro e w4 ⟨rfl, hs4, hg4⟩
  generalize ([1, 5000, 65530] : List Int).getD (drawOf l (at_ + 1 + 1 + 1) ([1, 5000, 65530] : List Int).length).toNat 0 = k4
  have HG4 := Lib.hid (HG3.out.andThen (grown_alloc_then hg4) (fun _ h => .inr h))
  have HZ4 := Lib.hid ((hg4.block w.heap.size (by simp; omega) (fun e => by injection e with e; omega)).trans ((heap_alloc_old w3 _ hl3).trans HZ3.out))
  have hl4 := lt_of_block HZ4.out
  clear hg4 HG3 HZ3 hs3
  go_wp2_with fail
  refine (pick_any b A cap l (at_ + 1 + 1 + 1 + 1) _ (hs4.alloc _) (by omega) w4.heap.size [1, 2, 3, 6] (by rw [heap_alloc_new]; rfl) (by have := hs4.lt; omega) (by simp) (by simp) 4 4 rfl).mono ?_
  rintro e w5 ⟨rfl, hs5, hg5⟩
  generalize ([1, 2, 3, 6] : List Int).getD (drawOf l (at_ + 1 + 1 + 1 + 1) ([1, 2, 3, 6] : List Int).length).toNat 0 = k5
  have HG5 := Lib.hid (HG4.out.andThen (grown_alloc_then hg5) (fun _ h => .inr h))
  have HZ5 := Lib.hid ((hg5.block w.heap.size (by simp; omega) (fun e => by injection e with e; omega)).trans ((heap_alloc_old w4 _ hl4).trans HZ4.out))
  have hl5 := lt_of_block HZ5.out
  clear hg5 HG4 HZ4 hs4
  obtain ⟨at5, hat5⟩ : ∃ x, x = at_ + 1 + 1 + 1 + 1 + 1 := ⟨_, rfl⟩
  rw [← hat5] at hs5
  have ha1 : at_ ≤ at5 := by omega
  have ha2 : at5 ≤ at_ + 5 := by omega
  clear hat5
  have p0 := draw_low l at5 3 (by omega)
  have p1 := draw_high l at5 3 (by omega)
  go_wp2_with fail
  refine (range_any b A cap l at5 1 3 _ hs5 (by omega) (by omega) (by omega) (by omega) (by omega)).mono ?_
  rintro e w6 ⟨rfl, hs6, hg6⟩
  rw [show (3 : Int) - 1 + 1 = 3 by omega]
  generalize drawOf l at5 3 = d6 at *
  have HG6 := Lib.hid (HG5.out.andThen hg6 (fun _ h => .inr h))
  have HZ6 := Lib.hid ((hg6.block w.heap.size hl5 (fun e => by injection e with e; omega)).trans HZ5.out)
  have hl6 := lt_of_block HZ6.out
  clear hg6 HG5 HZ5 hs5
  go_wp2_with fail
  refine (at_any (1 + d6) _ (by omega) (by omega)).mono ?_
  rintro e w7 ⟨rfl, hb7⟩
  have hs7 := hs6.grown (grownB hb7 none) (fun k e => by cases e)
  have HG7 := Lib.hid (HG6.out.andThen (grownB hb7 (some b)) (fun _ h => .inr h))
  have HZ7 := Lib.hid ((hb7.block w.heap.size hl6).trans HZ6.out)
  have hl7 := lt_of_block HZ7.out
  clear hb7 HG6 HZ6 hs6
  go_wp2_with fail
  refine (flip_any b A cap l (at5 + 1) 20 _ (hs7.alloc _) (by omega) (by omega) (by omega)).mono ?_
  rintro e w8 ⟨rfl, hs8, hg8⟩
  have HG8 := Lib.hid (HG7.out.andThen (grown_alloc_then hg8) (fun _ h => .inr h))
  have HZ8 := Lib.hid ((hg8.block w.heap.size (by simp; omega) (fun e => by injection e with e; omega)).trans ((heap_alloc_old w7 _ hl7).trans HZ7.out))
  have HY8 := Lib.hid ((hg8.block w7.heap.size (by simp) (fun e => by injection e with e; have := hs7.lt; omega)).trans (heap_alloc_new w7 _))
  have hl8 := lt_of_block HZ8.out
  have hy8 := lt_of_block HY8.out
  have hnr : w7.heap.size ≠ w.heap.size := by omega
  have hRb : b < w7.heap.size := hs7.lt
  have hRw : w.heap.size ≤ w7.heap.size := by omega
  clear hg8 HG7 HZ7 hs7
  generalize (drawOf l (at5 + 1) 20 == 0) = fl
  generalize w7.heap.size = R3 at *
  cases fl
  · obtain ⟨⟨z0, z1, z2, z3, z4, z5, z6, z7⟩, zf0, zf1, zf2, zf3, zf4, zf5, zf6, zf7⟩ := res8 HZ8.out
    obtain ⟨⟨y0, y1, y2, y3, y4, y5, y6, y7⟩, -⟩ := res8 HY8.out
    go_wp2_with fail
    clear z0 z1 z2 z3 z4 z5 z6 z7 y0 y1 y2 y3 y4 y5 y6 y7
    generalize hW : World.setCell _ _ _ = W9
    have hr := re8 HZ8.out hW
    obtain ⟨⟨y0, y1, y2, y3, y4, y5, y6, y7⟩, -⟩ := res8 hr.blk
    refine bodyPost_ret (v := .agg #[.int .i64 k1, .int .i64 k2, .int .i64 k3, .int .i64 k4, .int .i64 k5, .bool false, .int .u64 0, .int .u64 (1681915904 + (1 + d6))]) (by simp [results, Tryz.results5, go_sem, y0, y1, y2, y3, y4, y5, y6, y7]) rfl
      ⟨⟨k1, k2, k3, k4, k5, false, 0, 1681915904 + (1 + d6)⟩, rfl, (by simp), str_mono (hr.str hs8 hbl) (hr.grown HG8.out (.inl (Nat.le_refl _))) (by omega) (by omega)⟩
  · go_wp2_with fail
    refine (odd_any b A cap l _ 1 3 _ hs8 (by omega) (by omega) (by omega) (by omega)).mono ?_
    rintro e w9 ⟨rfl, hs9, hg9⟩
    generalize oddOf l (at5 + 1 + 1) 1 3 = o1
    have HG9 := Lib.hid (HG8.out.andThen hg9 (fun _ h => .inr h))
    have HZ9 := Lib.hid ((hg9.block w.heap.size hl8 (fun e => by injection e with e; omega)).trans HZ8.out)
    have HY9 := Lib.hid ((hg9.block R3 hy8 (fun e => by injection e with e; omega)).trans HY8.out)
    have hl9 := lt_of_block HZ9.out
    have hy9 := lt_of_block HY9.out
    clear hg9 HG8 HZ8 HY8 hs8
    go_wp2_with fail
    refine (odd_any b A cap l _ 1 3 _ hs9 (by omega) (by omega) (by omega) (by omega)).mono ?_
    rintro e w10 ⟨rfl, hs10, hg10⟩
    generalize oddOf l (at5 + 1 + 1 + 2) 1 3 = o2
    have HG10 := Lib.hid (HG9.out.andThen hg10 (fun _ h => .inr h))
    have HZ10 := Lib.hid ((hg10.block w.heap.size hl9 (fun e => by injection e with e; omega)).trans HZ9.out)
    have HY10 := Lib.hid ((hg10.block R3 hy9 (fun e => by injection e with e; omega)).trans HY9.out)
    have hl10 := lt_of_block HZ10.out
    have hy10 := lt_of_block HY10.out
    clear hg10 HG9 HZ9 HY9 hs9
    go_wp2_with fail
    refine (odd_any b A cap l _ 1 1000000 _ hs10 (by omega) (by omega) (by omega) (by omega)).mono ?_
    rintro e w11 ⟨rfl, hs11, hg11⟩
    generalize oddOf l (at5 + 1 + 1 + 2 + 2) 1 1000000 = o3
    have HG11 := Lib.hid (HG10.out.andThen hg11 (fun _ h => .inr h))
    have HZ11 := Lib.hid ((hg11.block w.heap.size hl10 (fun e => by injection e with e; omega)).trans HZ10.out)
    have HY11 := Lib.hid ((hg11.block R3 hy10 (fun e => by injection e with e; omega)).trans HY10.out)
    have hl11 := lt_of_block HZ11.out
    have hy11 := lt_of_block HY11.out
    clear hg11 HG10 HZ10 HY10 hs10
    go_wp2_with fail
    refine (odd_any b A cap l _ 1 65535 _ hs11 (by omega) (by omega) (by omega) (by omega)).mono ?_
    rintro e w12 ⟨rfl, hs12, hg12⟩
    generalize oddOf l (at5 + 1 + 1 + 2 + 2 + 2) 1 65535 = o4
    have HG12 := Lib.hid (HG11.out.andThen hg12 (fun _ h => .inr h))
    have HZ12 := Lib.hid ((hg12.block w.heap.size hl11 (fun e => by injection e with e; omega)).trans HZ11.out)
    have HY12 := Lib.hid ((hg12.block R3 hy11 (fun e => by injection e with e; omega)).trans HY11.out)
    have hl12 := lt_of_block HZ12.out
    have hy12 := lt_of_block HY12.out
    clear hg12 HG11 HZ11 HY11 hs11
    go_wp2_with fail
    refine (raw_any b A cap l _ _ hs12 (by omega)).mono ?_
    rintro e w13 ⟨six, hi, lo, rfl, hhi, at13, hb1, hb2, hs13, hg13⟩
    have HG13 := Lib.hid (HG12.out.andThen hg13 (fun _ h => .inr h))
    have HZ13 := Lib.hid ((hg13.block w.heap.size hl12 (fun e => by injection e with e; omega)).trans HZ12.out)
    have HY13 := Lib.hid ((hg13.block R3 hy12 (fun e => by injection e with e; omega)).trans HY12.out)
    clear hg13 HG12 HZ12 HY12 hs12
    obtain ⟨⟨z0, z1, z2, z3, z4, z5, z6, z7⟩, zf0, zf1, zf2, zf3, zf4, zf5, zf6, zf7⟩ := res8 HZ13.out
    obtain ⟨⟨y0, y1, y2, y3, y4, y5, y6, y7⟩, yf0, yf1, yf2, yf3, yf4, yf5, yf6, yf7⟩ := res8 HY13.out
    go_wp2_with fail
    clear z0 z1 z2 z3 z4 z5 z6 z7 y0 y1 y2 y3 y4 y5 y6 y7 zf0 zf1 zf2 zf3 zf4 zf5 zf6 zf7 yf0 yf1 yf2 yf3 yf4 yf5 yf6 yf7
    generalize hW : World.setCell _ _ _ = W9
    obtain ⟨W7, h7⟩ : ∃ W7, (((((((w13.setCell ⟨R3, 0, none⟩ (.int .i64 o1)).setCell ⟨R3, 1, none⟩ (.int .i64 o2)).setCell ⟨R3, 2, none⟩ (.int .i64 o3)).setCell ⟨R3, 3, none⟩ (.int .i64 o4)).setCell ⟨R3, 5, none⟩ (.bool six)).setCell ⟨R3, 6, none⟩ (.int .u64 hi)).setCell ⟨R3, 7, none⟩ (.int .u64 lo)) = W7 := ⟨_, rfl⟩
    rw [h7] at hW
    have r1 : Re w13 W7 R3 #[.int .i64 o1, .int .i64 o2, .int .i64 o3, .int .i64 o4, .int .i64 k5, .bool six, .int .u64 hi, .int .u64 lo] 30 := by
      have := (((((((Re.refl HY13.out).set 0 (.int .i64 o1)).set 1 (.int .i64 o2)).set 2 (.int .i64 o3)).set 3 (.int .i64 o4)).set 5 (.bool six)).set 6 (.int .u64 hi)).set 7 (.int .u64 lo)
      rw [h7] at this
      simpa using this
    have hr := re8 ((r1.oth w.heap.size hnr.symm).trans HZ13.out) hW
    obtain ⟨⟨y0, y1, y2, y3, y4, y5, y6, y7⟩, -⟩ := res8 hr.blk
    refine bodyPost_ret (v := .agg #[.int .i64 o1, .int .i64 o2, .int .i64 o3, .int .i64 o4, .int .i64 k5, .bool six, .int .u64 hi, .int .u64 lo]) (by simp [results, Tryz.results5, go_sem, y0, y1, y2, y3, y4, y5, y6, y7]) rfl
      ⟨⟨o1, o2, o3, o4, k5, six, hi, lo⟩, rfl, hhi, str_mono (hr.str (r1.str hs13 hRb) hbl) (hr.grown (r1.grown HG13.out (.inl hRw)) (.inl (Nat.le_refl _))) (by omega) (by omega)⟩
end Go.Proofs.YtphjgjcbolmdiaaGreatDoor
