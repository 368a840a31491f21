/- Addresses and prefixes that a stream hands out, as functions of what it draws. -/
import Derived.Test.YtkbbmlkgaooaiaaGreatDoorWdC
import Derived.Test.YtkbbmlkgaooaiaaGreatDoorAdr
import Derived.Test.YtkbbmlkgaooaiaaGreatDoorTnO
namespace Go.Proofs.YtkbbmlkgaooaiaaGreatDoor
open Go.RowKit Go.Hw

def RawOut (w : World) (b : Nat) (A : Option Addr) (cap : Nat) (l : List Int) (at_ m : Int) (e : Ending) (w' : World) : Prop :=
  ∃ six hi lo, e = .returned (.agg #[.bool six, .int .u64 hi, .int .u64 lo]) ∧ U64 hi ∧ U64 lo ∧ StrTo w w' b A cap l at_ m
def PfOut (w : World) (b : Nat) (A : Option Addr) (cap : Nat) (l : List Int) (at_ m : Int) (e : Ending) (w' : World) : Prop :=
  ∃ six hi lo bits_, e = .returned (.agg #[.bool six, .int .u64 hi, .int .u64 lo, .int .i64 bits_]) ∧ U64 hi ∧ U64 lo ∧ StrTo w w' b A cap l at_ m
/-- The raw address that is drawn, and where the stream is behind it. -/
def rawF (l : List Int) (at_ : Int) : Bool × Int × Int × Int :=
  if drawOf l (addrF l at_).2.2.2 15 == 0 then (false, drawOf l ((addrF l at_).2.2.2 + 1) 2, ([4294967296, 5, 1099511627776] : List Int).getD (drawOf l ((addrF l at_).2.2.2 + 1 + 1) 3).toNat 0, (addrF l at_).2.2.2 + 1 + 1 + 1)
  else ((addrF l at_).1, (addrF l at_).2.1, (addrF l at_).2.2.1, (addrF l at_).2.2.2 + 1)
theorem rawF_of {l : List Int} {at_ : Int} {six : Bool} {hi lo x : Int} (h : addrF l at_ = (six, hi, lo, x)) : rawF l at_ = if drawOf l x 15 == 0 then (false, drawOf l (x + 1) 2, ([4294967296, 5, 1099511627776] : List Int).getD (drawOf l (x + 1 + 1) 3).toNat 0, x + 1 + 1 + 1) else (six, hi, lo, x + 1) := by
  unfold rawF; rw [h]
def RawX (w : World) (b : Nat) (A : Option Addr) (cap : Nat) (l : List Int) (at_ m : Int) (e : Ending) (w' : World) : Prop :=
  ∃ six hi lo x, rawF l at_ = (six, hi, lo, x) ∧ e = .returned (.agg #[.bool six, .int .u64 hi, .int .u64 lo]) ∧ U64 hi ∧ U64 lo ∧ StrX w w' b A cap l at_ m x
def pfMk (six : Bool) (hi lo b x : Int) : Bool × Int × Int × Int × Int := ((maskF six hi lo (lenA six - b).toNat).1, (maskF six hi lo (lenA six - b).toNat).2.1, (maskF six hi lo (lenA six - b).toNat).2.2, b, x)
theorem pfMk_of {six : Bool} {hi lo b x : Int} {m : Nat} {s : Bool} {h k : Int} (hm : lenA six - b = m) (hf : maskF six hi lo m = (s, h, k)) : pfMk six hi lo b x = (s, h, k, b, x) := by
  unfold pfMk; rw [hm, Int.toNat_natCast, hf]
/-- The right prefix that is drawn, and where the stream is behind it. -/
def rpF (l : List Int) (at_ : Int) : Bool × Int × Int × Int × Int :=
  if (addrF l at_).1 = true then pfMk (addrF l at_).1 (addrF l at_).2.1 (addrF l at_).2.2.1 (([0, 8, 32, 48, 63, 64, 65, 96, 127, 128] : List Int).getD (drawOf l ((addrF l at_).2.2.2 + 1) (([0, 8, 32, 48, 63, 64, 65, 96, 127, 128] : List Int).length : Int)).toNat 0) ((addrF l at_).2.2.2 + 1 + 1)
  else pfMk (addrF l at_).1 (addrF l at_).2.1 (addrF l at_).2.2.1 (([0, 8, 24, 27, 28, 29, 30, 31, 32] : List Int).getD (drawOf l (addrF l at_).2.2.2 (([0, 8, 24, 27, 28, 29, 30, 31, 32] : List Int).length : Int)).toNat 0) ((addrF l at_).2.2.2 + 1)
theorem rpF_of {l : List Int} {at_ : Int} {six : Bool} {hi lo x : Int} (h : addrF l at_ = (six, hi, lo, x)) : rpF l at_ = if six = true then pfMk six hi lo (([0, 8, 32, 48, 63, 64, 65, 96, 127, 128] : List Int).getD (drawOf l (x + 1) (([0, 8, 32, 48, 63, 64, 65, 96, 127, 128] : List Int).length : Int)).toNat 0) (x + 1 + 1) else pfMk six hi lo (([0, 8, 24, 27, 28, 29, 30, 31, 32] : List Int).getD (drawOf l x (([0, 8, 24, 27, 28, 29, 30, 31, 32] : List Int).length : Int)).toNat 0) (x + 1) := by
  unfold rpF; rw [h]
def PfX (w : World) (b : Nat) (A : Option Addr) (cap : Nat) (f : Bool × Int × Int × Int × Int) (l : List Int) (at_ m : Int) (e : Ending) (w' : World) : Prop :=
  ∃ six hi lo bits_ x, f = (six, hi, lo, bits_, x) ∧ e = .returned (.agg #[.bool six, .int .u64 hi, .int .u64 lo, .int .i64 bits_]) ∧ U64 hi ∧ U64 lo ∧ StrX w w' b A cap l at_ m x
/-- The prefix that is drawn, and where the stream is behind it. -/
def pxF (l : List Int) (at_ : Int) : Bool × Int × Int × Int × Int :=
  if drawOf l (rpF l at_).2.2.2.2 15 == 0 then ((rawF l ((rpF l at_).2.2.2.2 + 1)).1, (rawF l ((rpF l at_).2.2.2.2 + 1)).2.1, (rawF l ((rpF l at_).2.2.2.2 + 1)).2.2.1, oddOf l (rawF l ((rpF l at_).2.2.2.2 + 1)).2.2.2 0 33, (rawF l ((rpF l at_).2.2.2.2 + 1)).2.2.2 + 2)
  else ((rpF l at_).1, (rpF l at_).2.1, (rpF l at_).2.2.1, (rpF l at_).2.2.2.1, (rpF l at_).2.2.2.2 + 1)
theorem pxF_1 {l : List Int} {at_ : Int} {six : Bool} {hi lo b x : Int} (h : rpF l at_ = (six, hi, lo, b, x)) (hd : (drawOf l x 15 == 0) = false) : pxF l at_ = (six, hi, lo, b, x + 1) := by
  unfold pxF; rw [h]; simp only [hd]; rfl
theorem pxF_2 {l : List Int} {at_ : Int} {six : Bool} {hi lo b x : Int} (h : rpF l at_ = (six, hi, lo, b, x)) (hd : (drawOf l x 15 == 0) = true) {s : Bool} {h3 l3 x3 : Int} (h' : rawF l (x + 1) = (s, h3, l3, x3)) : pxF l at_ = (s, h3, l3, oddOf l x3 0 33, x3 + 2) := by
  unfold pxF; rw [h]; simp only [hd, h']; rfl
theorem grown_of_box {w W : World} {b : Nat} {o : Obj} (h : w.grownBy W (some b)) : w.grownBy (W.alloc o) (some b) := h.andThen (World.grownBy_alloc _ _ (some b)) (fun _ h => .inr h)
set_option maxRecDepth 100000 in
set_option maxHeartbeats 2000000 in
theorem raw_det (b : Nat) (A : Option Addr) (cap : Nat) (l : List Int) (at_ : Int) (w : World) (h : Str w b A cap l at_) (hh : at_ < 1099511627000) :
    Calls Tryz.prog 44 #[.pointer (some ⟨b, 0, none⟩)] w (RawX w b A cap l at_ 10) := by
  have hbl := h.lt
  have h0 := h.alloc (.cells #[.bool false, .int .u64 0, .int .u64 0] 42)
  have l0 := h.low
  go_enter Tryz.func44, Tryz.ntmps44
  go_wp2_with fail
  refine (addr_det b A cap l at_ _ h0 hh).mono ?_
  rintro e w1 ⟨six, hi, lo, at1, hF, rfl, hfine, ⟨ha1, ha2⟩, hs1, hg1⟩
  have HR := Lib.hid (rawF_of hF)
  clear hF
  have hhi : U64 hi ∧ U64 lo := ⟨hfine.1, hfine.2.1⟩
  have hz := (hg1.block w.heap.size (by simp) (fun e => by injection e with e; omega)).trans (heap_alloc_new w _)
  have hl1 := lt_of_block hz
  have HG1 := Lib.hid (grown_alloc_then hg1)
  have HZ := Lib.hid hz
  have HI := Lib.hid hhi
  clear hfine hg1 hz h h0 hhi
  go_wp2_with fail
  refine (flip_any b A cap l at1 15 _ (hs1.alloc _) (by omega) (by omega) (by omega)).mono ?_
  rintro e w2 ⟨rfl, hs2, hg2⟩
  have hz2 := (hg2.block w.heap.size (by simp; omega) (fun e => by injection e with e; omega)).trans ((heap_alloc_old w1 _ hl1).trans HZ.out)
  have hy2 := (hg2.block w1.heap.size (by simp) (fun e => by injection e with e; have := hs1.lt; omega)).trans (heap_alloc_new w1 _)
  have HG2 := Lib.hid (HG1.out.andThen (grown_alloc_then hg2) (fun _ h => .inr h))
  have hl2 := lt_of_block hz2
  have HZ2 := Lib.hid hz2
  have HY2 := Lib.hid hy2
  have hl3 := lt_of_block hy2
  clear hg2 hz2 hy2 HG1 HZ
  generalize (drawOf l at1 15 == 0) = fl at HR ⊢
  cases fl
  · obtain ⟨z0, z1, z2, zf0, zf1, zf2⟩ := res3 HZ2.out
    obtain ⟨y0, y1, y2, -, -, -⟩ := res3 HY2.out
    go_wp2_with fail
    clear z0 z1 z2 y0 y1 y2
    generalize hW : World.setCell _ _ _ = W9
    obtain ⟨hr, hS9, hG9⟩ := addr_fin hbl HZ2.out hs2 HG2.out hW
    obtain ⟨y0, y1, y2, -, -, -⟩ := res3 hr
    refine bodyPost_ret (v := .agg #[.bool six, .int .u64 hi, .int .u64 lo]) (by simp [results, Tryz.results44, go_sem, y0, y1, y2]) rfl ⟨six, hi, lo, _, HR.out, rfl, HI.out.1, HI.out.2, strX_mk hS9 hG9 (by omega) (by omega)⟩
  · go_wp2_with fail
    have p0 := draw_low l (at1 + 1) 2 (by omega)
    have p1 := draw_high l (at1 + 1) 2 (by omega)
    refine (next_any b A cap l (at1 + 1) 2 _ hs2 (by omega) (by omega) (by omega)).mono ?_
    rintro e w3 ⟨rfl, hs3, hg3⟩
    have hz3 := (hg3.block w.heap.size hl2 (fun e => by injection e with e; omega)).trans HZ2.out
    have HG3 := Lib.hid (HG2.out.andThen hg3 (fun _ h => .inr h))
    have hl4 := lt_of_block hz3
    have HZ3 := Lib.hid hz3
    clear hg3 hz3 HG2 HZ2 HY2
    generalize drawOf l (at1 + 1) 2 = d1 at *
    have q0 := draw_low l (at1 + 1 + 1) 3 (by omega)
    have q1 := draw_high l (at1 + 1 + 1) 3 (by omega)
    go_wp2_with fail
    refine (next_any b A cap l (at1 + 1 + 1) 3 _ (hs3.alloc _) (by omega) (by omega) (by omega)).mono ?_
    rintro e w4 ⟨rfl, hs4, hg4⟩
    have hz4 := (hg4.block w.heap.size (by simp; omega) (fun e => by injection e with e; omega)).trans ((heap_alloc_old w3 _ hl4).trans HZ3.out)
    have hv := u64_at (vs := ([4294967296, 5, 1099511627776] : List Int)) (heap_alloc_new w3 _) hg4 (fun e => by injection e with e; have := hs3.lt; omega) (k := (drawOf l (at1 + 1 + 1) 3).toNat) (by simp; omega)
    have hvb : U64 (([4294967296, 5, 1099511627776] : List Int).getD (drawOf l (at1 + 1 + 1) 3).toNat 0) := pick_in (P := U64) (by simp [U64]) (by simp [U64]) _
    generalize ([4294967296, 5, 1099511627776] : List Int).getD (drawOf l (at1 + 1 + 1) 3).toNat 0 = vv at hv hvb HR
    generalize drawOf l (at1 + 1 + 1) 3 = d2 at *
    have HG4 := Lib.hid (HG3.out.andThen (grown_alloc_then hg4) (fun _ h => .inr h))
    have hl5 := lt_of_block hz4
    have HZ4 := Lib.hid hz4
    obtain ⟨z0, z1, z2, zf0, zf1, zf2⟩ := res3 hz4
    have HI2 := Lib.hid (show U64 d1 ∧ U64 vv from ⟨by unfold U64; omega, hvb⟩)
    clear hg4 hz4 HG3 HZ3
    go_wp2_with fail
    clear z0 z1 z2 hv
    generalize hW : World.setCell _ _ _ = W9
    obtain ⟨hr, hS9, hG9⟩ := addr_fin hbl HZ4.out hs4 HG4.out hW
    obtain ⟨y0, y1, y2, -, -, -⟩ := res3 hr
    refine bodyPost_ret (v := .agg #[.bool false, .int .u64 d1, .int .u64 vv]) (by simp [results, Tryz.results44, go_sem, y0, y1, y2]) rfl ⟨false, d1, vv, _, HR.out, rfl, HI2.out.1, HI2.out.2, strX_mk hS9 hG9 (by omega) (by omega)⟩


theorem pick_get {vs : List Int} {P : Int → Prop} (h : ∀ v ∈ vs, P v) (l : List Int) (at_ : Int) (hv : vs ≠ []) : P (vs.getD (drawOf l at_ (vs.length : Int)).toNat 0) := by
  have hp : 0 < vs.length := List.length_pos_iff.2 hv
  have h1 := draw_low l at_ (vs.length : Int) (by omega)
  have h2 := draw_high l at_ (vs.length : Int) (by omega)
  rw [List.getD_eq_getElem?_getD, List.getElem?_eq_getElem (by omega)]
  exact h _ (List.getElem_mem _)
def pfBox (six : Bool) (hi lo bits_ : Int) : Obj := .cells #[.bool six, .int .u64 hi, .int .u64 lo, .int .i64 bits_] 44 (0, 0)

set_option maxRecDepth 100000 in
set_option maxHeartbeats 2000000 in
theorem rightPrefix_det (b : Nat) (A : Option Addr) (cap : Nat) (l : List Int) (at_ : Int) (w : World) (h : Str w b A cap l at_) (hh : at_ < 1099511627000) :
    Calls Tryz.prog 43 #[.pointer (some ⟨b, 0, none⟩)] w (PfX w b A cap (rpF l at_) l at_ 10) := by
  have hbl := h.lt
  have h0 := h.alloc (pfBox false 0 0 0)
  have l0 := h.low
  go_enter Tryz.func43, Tryz.ntmps43
  go_wp2_with fail
  refine (addr_det b A cap l at_ _ h0 hh).mono ?_
  rintro e w1 ⟨six, hi, lo, at1, hF, rfl, hfine, ⟨ha1, ha2⟩, hs1, hg1⟩
  have HR := Lib.hid (rpF_of hF)
  clear hF
  have hhi : U64 hi ∧ U64 lo := ⟨hfine.1, hfine.2.1⟩
  have hz := (hg1.block w.heap.size (by simp) (fun e => by injection e with e; omega)).trans (heap_alloc_new w (pfBox false 0 0 0))
  have hl1 := lt_of_block hz
  have HG1 := Lib.hid (grown_alloc_then hg1)
  have HZ := Lib.hid hz
  have HI := Lib.hid hhi
  have hb1 := hs1.lt
  clear hfine hg1 hz h h0 hhi
  go_wp2_with fail
  generalize hW : World.alloc _ _ = W2
  have hs2 : Str W2 b A cap l at1 := by rw [← hW]; exact (hs1.alloc _).alloc _
  have hp2 : W2.heap[w1.heap.size + 1]? = some (.cells (([0, 8, 24, 27, 28, 29, 30, 31, 32] : List Int).map (Value.int .i64)).toArray 3 (0, 0)) := by
    rw [← hW]
    have := heap_alloc_new (w1.alloc (addrBox six hi lo)) (.cells (([0, 8, 24, 27, 28, 29, 30, 31, 32] : List Int).map (Value.int .i64)).toArray 3)
    simp only [Re_size] at this
    exact this
  have hx2 : W2.heap[w1.heap.size]? = some (addrBox six hi lo) := by rw [← hW]; exact (heap_alloc_old _ _ (by simp)).trans (heap_alloc_new w1 _)
  have hz2 : W2.heap[w.heap.size]? = some (pfBox false 0 0 0) := by rw [← hW]; exact (heap_alloc_old _ _ (by simp <;> omega)).trans ((heap_alloc_old _ _ hl1).trans HZ.out)
  have hg2 : w.grownBy W2 (some b) := by rw [← hW]; exact grown_of_box (grown_of_box HG1.out)
  clear hW HG1 HZ hs1
  refine (pick_any b A cap l at1 W2 hs2 (by omega) (w1.heap.size + 1) [0, 8, 24, 27, 28, 29, 30, 31, 32] hp2 (by omega) (by simp) (by simp) 9 9 rfl).mono ?_
  rintro e w3 ⟨rfl, hs3, hg3⟩
  have hbits := pick_get (P := fun v => 0 ≤ v ∧ v ≤ 32) (vs := [0, 8, 24, 27, 28, 29, 30, 31, 32]) (by simp) l at1 (by simp)
  generalize ([0, 8, 24, 27, 28, 29, 30, 31, 32] : List Int).getD (drawOf l at1 (([0, 8, 24, 27, 28, 29, 30, 31, 32] : List Int).length : Int)).toNat 0 = bits1 at *
  have hx3 := (hg3.block _ (lt_of_block hx2) (fun e => by injection e with e; omega)).trans hx2
  have HZ3 := Lib.hid ((hg3.block _ (lt_of_block hz2) (fun e => by injection e with e; omega)).trans hz2)
  have HG3 := Lib.hid (hg2.andThen hg3 (fun _ h => .inr h))
  clear hp2 hx2 hz2 hg2 hg3 hs2
  obtain ⟨x0, x1, x2, -⟩ := res3 hx3
  have HX3 := Lib.hid hx3
  clear hx3
  cases six
  · obtain ⟨m, hm⟩ := Int.eq_ofNat_of_zero_le (show 0 ≤ lenA false - bits1 by unfold lenA; simp; omega)
    have hm2 : m ≤ 128 := by unfold lenA at hm; simp at hm; omega
    have HM := Lib.hid hm
    clear hm
    go_wp2_with fail
    clear x0 x1 x2
    refine (maskOf_det false hi lo bits1 w3 HI.out.1 HI.out.2 m HM.out hm2 hbits.1).mono ?_
    rintro e w4 ⟨s4, h4, l4, hmf, rfl, uh, ul, hb4⟩
    have HQ := Lib.hid (HR.out.trans (pfMk_of HM.out hmf))
    clear HR hmf
    have HG4 := Lib.hid (HG3.out.andThen (grownB hb4 (some b)) (fun _ h => .inr h))
    have hz4 := (hb4.block _ (lt_of_block HZ3.out)).trans HZ3.out
    have HZ4 := Lib.hid hz4
    have hs4 := hs3.grown (grownB hb4 none) (fun k e => by cases e)
    obtain ⟨⟨z0, z1, z2, z3⟩, f0, f1, f2, f3⟩ := res4 hz4
    clear hb4 hz4 HG3 HZ3 hs3
    go_wp2_with fail
    clear z0 z1 z2 z3 f0 f1 f2 f3
    generalize hW : World.setCell _ _ _ = W9
    have hr := re4 HZ4.out hW
    obtain ⟨⟨y0, y1, y2, y3⟩, -⟩ := res4 hr.blk
    refine bodyPost_ret (v := .agg #[.bool s4, .int .u64 h4, .int .u64 l4, .int .i64 bits1]) (by simp [results, Tryz.results43, go_sem, y0, y1, y2, y3]) rfl ⟨s4, h4, l4, bits1, _, HQ.out, rfl, uh, ul, strX_mk (hr.str hs4 hbl) (hr.grown HG4.out (.inl (Nat.le_refl _))) (by omega) (by omega)⟩
  · go_wp2_with fail
    clear x0 x1 x2
    refine (pick_any b A cap l (at1 + 1) _ (hs3.alloc _) (by omega) w3.heap.size [0, 8, 32, 48, 63, 64, 65, 96, 127, 128] (by rw [heap_alloc_new]; rfl) (by have := hs3.lt; omega) (by simp) (by simp) 10 10 rfl).mono ?_
    rintro e w4 ⟨rfl, hs4, hg4⟩
    have hbit2 := pick_get (P := fun v => 0 ≤ v ∧ v ≤ 128) (vs := [0, 8, 32, 48, 63, 64, 65, 96, 127, 128]) (by simp) l (at1 + 1) (by simp)
    generalize ([0, 8, 32, 48, 63, 64, 65, 96, 127, 128] : List Int).getD (drawOf l (at1 + 1) (([0, 8, 32, 48, 63, 64, 65, 96, 127, 128] : List Int).length : Int)).toNat 0 = bits2 at *
    have hx4 := (hg4.block _ (by have := lt_of_block HX3.out; simp; omega) (fun e => by injection e with e; omega)).trans ((heap_alloc_old w3 _ (lt_of_block HX3.out)).trans HX3.out)
    have HZ4 := Lib.hid ((hg4.block _ (by have := lt_of_block HZ3.out; simp; omega) (fun e => by injection e with e; omega)).trans ((heap_alloc_old w3 _ (lt_of_block HZ3.out)).trans HZ3.out))
    have HG4 := Lib.hid (HG3.out.andThen (grown_alloc_then hg4) (fun _ h => .inr h))
    obtain ⟨x0, x1, x2, -⟩ := res3 hx4
    clear hx4 hg4 HG3 HZ3 HX3 hs3 hbits
    obtain ⟨m, hm⟩ := Int.eq_ofNat_of_zero_le (show 0 ≤ lenA true - bits2 by unfold lenA; simp; omega)
    have hm2 : m ≤ 128 := by unfold lenA at hm; simp at hm; omega
    have HM := Lib.hid hm
    clear hm
    go_wp2_with fail
    clear x0 x1 x2
    refine (maskOf_det true hi lo bits2 w4 HI.out.1 HI.out.2 m HM.out hm2 hbit2.1).mono ?_
    rintro e w5 ⟨s4, h4, l4, hmf, rfl, uh, ul, hb5⟩
    have HQ := Lib.hid (HR.out.trans (pfMk_of HM.out hmf))
    clear HR hmf
    have HG5 := Lib.hid (HG4.out.andThen (grownB hb5 (some b)) (fun _ h => .inr h))
    have hz5 := (hb5.block _ (lt_of_block HZ4.out)).trans HZ4.out
    have HZ5 := Lib.hid hz5
    have hs5 := hs4.grown (grownB hb5 none) (fun k e => by cases e)
    obtain ⟨⟨z0, z1, z2, z3⟩, f0, f1, f2, f3⟩ := res4 hz5
    clear hb5 hz5 HG4 HZ4 hs4
    go_wp2_with fail
    clear z0 z1 z2 z3 f0 f1 f2 f3
    generalize hW : World.setCell _ _ _ = W9
    have hr := re4 HZ5.out hW
    obtain ⟨⟨y0, y1, y2, y3⟩, -⟩ := res4 hr.blk
    refine bodyPost_ret (v := .agg #[.bool s4, .int .u64 h4, .int .u64 l4, .int .i64 bits2]) (by simp [results, Tryz.results43, go_sem, y0, y1, y2, y3]) rfl ⟨s4, h4, l4, bits2, _, HQ.out, rfl, uh, ul, strX_mk (hr.str hs5 hbl) (hr.grown HG5.out (.inl (Nat.le_refl _))) (by omega) (by omega)⟩

set_option maxRecDepth 100000 in
set_option maxHeartbeats 2000000 in
theorem prefix_det (b : Nat) (A : Option Addr) (cap : Nat) (l : List Int) (at_ : Int) (w : World) (h : Str w b A cap l at_) (hh : at_ < 1099511626000) :
    Calls Tryz.prog 20 #[.pointer (some ⟨b, 0, none⟩)] w (PfX w b A cap (pxF l at_) l at_ 40) := by
  have hbl := h.lt
  have h0 := h.alloc (pfBox false 0 0 0)
  have l0 := h.low
  go_enter Tryz.func20, Tryz.ntmps20
  go_wp2_with fail
  refine (rightPrefix_det b A cap l at_ _ h0 (by omega)).mono ?_
  rintro e w1 ⟨six, hi, lo, bits_, at1, hF, rfl, uh, ul, ⟨ha1, ha2⟩, hs1, hg1⟩
  have HR := Lib.hid hF
  clear hF
  have hz := (hg1.block w.heap.size (by simp) (fun e => by injection e with e; omega)).trans (heap_alloc_new w (pfBox false 0 0 0))
  have hl1 := lt_of_block hz
  have HG1 := Lib.hid (grown_alloc_then hg1)
  have HZ := Lib.hid hz
  have hb1 := hs1.lt
  clear hg1 hz h h0
  go_wp2_with fail
  refine (flip_any b A cap l at1 15 _ (hs1.alloc _) (by omega) (by omega) (by omega)).mono ?_
  rintro e w2 ⟨rfl, hs2, hg2⟩
  have HZ2 := Lib.hid ((hg2.block w.heap.size (by simp; omega) (fun e => by injection e with e; omega)).trans ((heap_alloc_old w1 _ hl1).trans HZ.out))
  have HY2 := Lib.hid ((hg2.block w1.heap.size (by simp) (fun e => by injection e with e; omega)).trans (heap_alloc_new w1 _))
  have HG2 := Lib.hid (HG1.out.andThen (grown_alloc_then hg2) (fun _ h => .inr h))
  have hl2 := lt_of_block HZ2.out
  have hl3 := lt_of_block HY2.out
  clear hg2 HG1 HZ hs1
  have HR1 := Lib.hid (fun hd => pxF_1 HR.out hd)
  have HR2 := Lib.hid (fun hd => fun (s : Bool) (h3 l3 x3 : Int) h' => pxF_2 (s := s) (h3 := h3) (l3 := l3) (x3 := x3) HR.out hd h')
  clear HR
  generalize (drawOf l at1 15 == 0) = fl at HR1 HR2 ⊢
  cases fl
  · obtain ⟨⟨z0, z1, z2, z3⟩, f0, f1, f2, f3⟩ := res4 HZ2.out
    obtain ⟨⟨y0, y1, y2, y3⟩, -⟩ := res4 HY2.out
    go_wp2_with fail
    clear z0 z1 z2 z3 f0 f1 f2 f3 y0 y1 y2 y3
    generalize hW : World.setCell _ _ _ = W9
    have hr := re4 HZ2.out hW
    obtain ⟨⟨y0, y1, y2, y3⟩, -⟩ := res4 hr.blk
    refine bodyPost_ret (v := .agg #[.bool six, .int .u64 hi, .int .u64 lo, .int .i64 bits_]) (by simp [results, Tryz.results20, go_sem, y0, y1, y2, y3]) rfl ⟨six, hi, lo, bits_, _, HR1.out trivial, rfl, uh, ul, strX_mk (hr.str hs2 hbl) (hr.grown HG2.out (.inl (Nat.le_refl _))) (by omega) (by omega)⟩
  · go_wp2_with fail
    refine (raw_det b A cap l (at1 + 1) w2 hs2 (by omega)).mono ?_
    rintro e w3 ⟨s3, h3, l3, at3, hF, rfl, uh3, ul3, ⟨hc1, hc2⟩, hs3, hg3⟩
    have HQ := Lib.hid (HR2.out trivial _ _ _ _ hF)
    clear hF HR1 HR2
    have HZ3 := Lib.hid ((hg3.block _ hl2 (fun e => by injection e with e; omega)).trans HZ2.out)
    have HY3 := Lib.hid ((hg3.block _ hl3 (fun e => by injection e with e; omega)).trans HY2.out)
    have HG3 := Lib.hid (HG2.out.andThen hg3 (fun _ h => .inr h))
    have hl4 := lt_of_block HZ3.out
    have hl5 := lt_of_block HY3.out
    clear hg3 HG2 HZ2 HY2 hs2
    go_wp2_with fail
    refine (odd_any b A cap l at3 0 33 w3 hs3 (by omega) (by omega) (by omega) (by omega)).mono ?_
    rintro e w4 ⟨rfl, hs4, hg4⟩
    generalize oddOf l at3 0 33 = o at HQ ⊢
    have hz4 := (hg4.block _ hl4 (fun e => by injection e with e; omega)).trans HZ3.out
    have hy4 := (hg4.block _ hl5 (fun e => by injection e with e; omega)).trans HY3.out
    have HZ4 := Lib.hid hz4
    have HY4 := Lib.hid hy4
    have HG4 := Lib.hid (HG3.out.andThen hg4 (fun _ h => .inr h))
    obtain ⟨⟨z0, z1, z2, z3⟩, f0, f1, f2, f3⟩ := res4 hz4
    obtain ⟨⟨y0, y1, y2, y3⟩, g0, g1, g2, g3⟩ := res4 hy4
    clear hg4 hz4 hy4 HG3 HZ3 HY3 hs3
    go_wp2_with fail
    clear z0 z1 z2 z3 f0 f1 f2 f3 y0 y1 y2 y3 g0 g1 g2 g3
    have r1 := re4 HY4.out rfl (v0 := .bool s3) (v1 := .int .u64 h3) (v2 := .int .u64 l3) (v3 := .int .i64 o)
    have hz5 := (r1.oth w.heap.size (by omega)).trans HZ4.out
    generalize hW : World.setCell _ _ _ = W9
    have hr := re4 hz5 hW
    obtain ⟨⟨y0, y1, y2, y3⟩, -⟩ := res4 hr.blk
    refine bodyPost_ret (v := .agg #[.bool s3, .int .u64 h3, .int .u64 l3, .int .i64 o]) (by simp [results, Tryz.results20, go_sem, y0, y1, y2, y3]) rfl ⟨s3, h3, l3, o, _, HQ.out, rfl, uh3, ul3, strX_mk (hr.str (r1.str hs4 (by omega)) hbl) (hr.grown (r1.grown HG4.out (.inl (by omega))) (.inl (Nat.le_refl _))) (by omega) (by omega)⟩
theorem PfX.to {w : World} {b : Nat} {A : Option Addr} {cap : Nat} {f : Bool × Int × Int × Int × Int} {l : List Int} {at_ m : Int} {e : Ending} {w' : World} (h : PfX w b A cap f l at_ m e w') : PfOut w b A cap l at_ m e w' :=
  let ⟨six, hi, lo, bits_, _, _, h1, h2, h3, h4⟩ := h
  ⟨six, hi, lo, bits_, h1, h2, h3, h4.to⟩
theorem raw_any (b : Nat) (A : Option Addr) (cap : Nat) (l : List Int) (at_ : Int) (w : World) (h : Str w b A cap l at_) (hh : at_ < 1099511627000) :
    Calls Tryz.prog 44 #[.pointer (some ⟨b, 0, none⟩)] w (RawOut w b A cap l at_ 10) :=
  (raw_det b A cap l at_ w h hh).mono fun _ _ ⟨six, hi, lo, _, _, h1, h2, h3, h4⟩ => ⟨six, hi, lo, h1, h2, h3, h4.to⟩
theorem rightPrefix_any (b : Nat) (A : Option Addr) (cap : Nat) (l : List Int) (at_ : Int) (w : World) (h : Str w b A cap l at_) (hh : at_ < 1099511627000) :
    Calls Tryz.prog 43 #[.pointer (some ⟨b, 0, none⟩)] w (PfOut w b A cap l at_ 10) := (rightPrefix_det b A cap l at_ w h hh).mono fun _ _ h => h.to
theorem prefix_any (b : Nat) (A : Option Addr) (cap : Nat) (l : List Int) (at_ : Int) (w : World) (h : Str w b A cap l at_) (hh : at_ < 1099511626000) :
    Calls Tryz.prog 20 #[.pointer (some ⟨b, 0, none⟩)] w (PfOut w b A cap l at_ 40) := (prefix_det b A cap l at_ w h hh).mono fun _ _ h => h.to
end Go.Proofs.YtkbbmlkgaooaiaaGreatDoor
