/- Right prefixes that a stream hands out over a lanekeep2 seat: RightPrefix as a function of what it draws; addr.CheckPrefix at any prefix. -/
import Derived.Test.YtcmfkheohhfpiaaGreatDoorWdS
import Derived.Test.YtcmfkheohhfpiaaGreatDoorAdS
import Derived.Test.YtcmfkheohhfpiaaGreatDoorPick
import Derived.Test.YtcmfkheohhfpiaaGreatDoorKey
namespace Go.Proofs.YtcmfkheohhfpiaaGreatDoor
open Go.RowKit Go.Hw

theorem run_eq_addr (d : Nat) (a b : Bool) (x y u v : Int) (w : World) : (Op.equalIn (d + 2) 30 (.agg #[.bool a, .int .u64 x, .int .u64 u]) (.agg #[.bool b, .int .u64 y, .int .u64 v])).run Tryz.prog w = .ok (a == b && (x == y && u == v)) w := by
  have u1 := Tryz.underlying4
  have u2 := Tryz.underlying28
  have hA : Tryz.prog.underlying 30 = some (.struct (Tryz.prog.fieldsOf 30)) := by kernel_rfl
  have pA : Tryz.prog.stoodInHeld 30 = false := by kernel_rfl
  rw [run_equalIn_agg w (d + 1) 30 _ _ hA pA]
  simp only [Program.fieldsOf, Tryz.underlying30]
  go_simp
  by_cases h1 : a = b <;> by_cases h2 : x = y <;> by_cases h3 : u = v <;> simp [h1, h2, h3]
theorem guard_addr : Tryz.prog.eqGuardType Tryz.prog.depth 30 = false := by kernel_rfl
end Go.Proofs.YtcmfkheohhfpiaaGreatDoor

namespace Go.Proofs.YtcmfkheohhfpiaaGreatDoor
open Go.RowKit Go.Hw

theorem run_eq_pf (d : Nat) (a b : Bool) (x y u v m n : Int) (w : World) : (Op.equalIn (d + 3) 48 (.agg #[.bool a, .int .u64 x, .int .u64 u, .int .i64 m]) (.agg #[.bool b, .int .u64 y, .int .u64 v, .int .i64 n])).run Tryz.prog w = .ok ((a == b && (x == y && u == v)) && m == n) w := by
  have u2 := Tryz.underlying3
  have hA : Tryz.prog.underlying 48 = some (.struct (Tryz.prog.fieldsOf 48)) := by kernel_rfl
  have pA : Tryz.prog.stoodInHeld 48 = false := by kernel_rfl
  rw [run_equalIn_agg w (d + 2) 48 _ _ hA pA]
  simp only [Program.fieldsOf, Tryz.underlying48]
  go_simp
  by_cases h1 : a = b <;> by_cases h2 : x = y <;> by_cases h3 : u = v <;> by_cases h4 : m = n <;> simp [h1, h2, h3, h4]
theorem guard_pf : Tryz.prog.eqGuardType Tryz.prog.depth 48 = false := by kernel_rfl
end Go.Proofs.YtcmfkheohhfpiaaGreatDoor

namespace Go.Proofs.YtcmfkheohhfpiaaGreatDoor
open Go.RowKit Go.Hw
def pfMk (six : Bool) (hi lo b x : Int) : Bool × Int × Int × Int × Int := ((maskF six hi lo (lenA six - b).toNat).1, (maskF six hi lo (lenA six - b).toNat).2.1, (maskF six hi lo (lenA six - b).toNat).2.2, b, x)
theorem pfMk_of {six : Bool} {hi lo b x : Int} {m : Nat} {s : Bool} {h k : Int} (hm : lenA six - b = m) (hf : maskF six hi lo m = (s, h, k)) : pfMk six hi lo b x = (s, h, k, b, x) := by
  unfold pfMk; rw [hm, Int.toNat_natCast, hf]
/-- The right prefix that is drawn, and where the stream is behind it. -/
def rpF (l : List Int) (at_ : Int) : Bool × Int × Int × Int × Int :=
  if (addrF l at_).1 = true then pfMk (addrF l at_).1 (addrF l at_).2.1 (addrF l at_).2.2.1 (([0, 8, 32, 48, 63, 64, 65, 96, 127, 128] : List Int).getD (drawOf l ((addrF l at_).2.2.2 + 1) (([0, 8, 32, 48, 63, 64, 65, 96, 127, 128] : List Int).length : Int)).toNat 0) ((addrF l at_).2.2.2 + 1 + 1)
  else pfMk (addrF l at_).1 (addrF l at_).2.1 (addrF l at_).2.2.1 (([0, 8, 24, 27, 28, 29, 30, 31, 32] : List Int).getD (drawOf l (addrF l at_).2.2.2 (([0, 8, 24, 27, 28, 29, 30, 31, 32] : List Int).length : Int)).toNat 0) ((addrF l at_).2.2.2 + 1)
theorem rpF_of {l : List Int} {at_ : Int} {six : Bool} {hi lo x : Int} (h : addrF l at_ = (six, hi, lo, x)) : rpF l at_ = if six = true then pfMk six hi lo (([0, 8, 32, 48, 63, 64, 65, 96, 127, 128] : List Int).getD (drawOf l (x + 1) (([0, 8, 32, 48, 63, 64, 65, 96, 127, 128] : List Int).length : Int)).toNat 0) (x + 1 + 1) else pfMk six hi lo (([0, 8, 24, 27, 28, 29, 30, 31, 32] : List Int).getD (drawOf l x (([0, 8, 24, 27, 28, 29, 30, 31, 32] : List Int).length : Int)).toNat 0) (x + 1) := by
  unfold rpF; rw [h]
def PfX (w : World) (b : Nat) (A : Option Addr) (cap : Nat) (f : Bool × Int × Int × Int × Int) (l : List Int) (at_ m : Int) (e : Ending) (w' : World) : Prop :=
  ∃ six hi lo bits_ x, f = (six, hi, lo, bits_, x) ∧ e = .returned (.agg #[.bool six, .int .u64 hi, .int .u64 lo, .int .i64 bits_]) ∧ U64 hi ∧ U64 lo ∧ StrX w w' b A cap l at_ m x
theorem grown_of_box {w W : World} {b : Nat} {o : Obj} (h : w.grownBy W (some b)) : w.grownBy (W.alloc o) (some b) := h.andThen (World.grownBy_alloc _ _ (some b)) (fun _ h => .inr h)
theorem pick_get {vs : List Int} {P : Int → Prop} (h : ∀ v ∈ vs, P v) (l : List Int) (at_ : Int) (hv : vs ≠ []) : P (vs.getD (drawOf l at_ (vs.length : Int)).toNat 0) := by
  have hp : 0 < vs.length := List.length_pos_iff.2 hv
  have h1 := draw_low l at_ (vs.length : Int) (by omega)
  have h2 := draw_high l at_ (vs.length : Int) (by omega)
  rw [List.getD_eq_getElem?_getD, List.getElem?_eq_getElem (by omega)]
  exact h _ (List.getElem_mem _)
def pfBox (six : Bool) (hi lo bits_ : Int) : Obj := .cells #[.bool six, .int .u64 hi, .int .u64 lo, .int .i64 bits_] 48 (0, 0)
/-- A right prefix. -/
def PfRight (s : Bool) (h l b : Int) : Prop := AddrFine s h l ∧ 0 ≤ b ∧ ∃ m : Nat, lenA s - b = m ∧ m ≤ 128 ∧ clr h (m - 64) = h ∧ clr l (min 64 m) = l
theorem clr_clr (x : Int) (m : Nat) : clr (clr x m) m = clr x m := by
  unfold clr
  have hp : (0 : Int) < 2 ^ m := Int.pow_pos (by decide)
  rw [Int.mul_ediv_cancel _ (Int.ne_of_gt hp)]
theorem clr_le {x : Int} (h : 0 ≤ x) (m : Nat) : 0 ≤ clr x m ∧ clr x m ≤ x := by
  unfold clr
  have hp : (0 : Int) < 2 ^ m := Int.pow_pos (by decide)
  exact ⟨Int.mul_nonneg (Int.ediv_nonneg h (Int.le_of_lt hp)) (Int.le_of_lt hp), Int.ediv_mul_le x (Int.ne_of_gt hp)⟩
theorem mask_right {six : Bool} {hi lo b : Int} (hf : AddrFine six hi lo) {m : Nat} (hm : lenA six - b = m) (hm2 : m ≤ 128) (hb : 0 ≤ b) {s : Bool} {h l : Int} (he : maskF six hi lo m = (s, h, l)) : PfRight s h l b := by
  have hc := mask_closed (s := six) (hi := hi) (lo := lo) hf.1 hf.2.1 hm2
  rw [he] at hc
  injection hc with h1 h2
  injection h2 with h2 h3
  subst h1 h2 h3
  have e1 := clr_le hf.1.1 (m - 64)
  have e2 := clr_le hf.2.1.1 (min 64 m)
  refine ⟨⟨by have := hf.1; omega, by have := hf.2.1; omega, fun h6 => ?_⟩, hb, m, hm, hm2, clr_clr _ _, clr_clr _ _⟩
  obtain ⟨h7, h8⟩ := hf.2.2 h6
  omega
def RpX (w : World) (b : Nat) (A : Option Addr) (cap : Nat) (l : List Int) (at_ m : Int) (e : Ending) (w' : World) : Prop :=
  ∃ six hi lo bits_ x, (rpF l at_ = (six, hi, lo, bits_, x) ∧ PfRight six hi lo bits_) ∧ e = .returned (.agg #[.bool six, .int .u64 hi, .int .u64 lo, .int .i64 bits_]) ∧ StrX w w' b A cap l at_ m x
set_option maxRecDepth 100000 in
set_option maxHeartbeats 2000000 in
theorem rightPrefix_det (b : Nat) (A : Option Addr) (cap : Nat) (l : List Int) (at_ : Int) (w : World) (h : Str w b A cap l at_) (hh : at_ < 1099511627000) :
    Calls Tryz.prog 50 #[.pointer (some ⟨b, 0, none⟩)] w (RpX w b A cap l at_ 10) := by
  have hbl := h.lt
  have h0 := h.alloc (pfBox false 0 0 0)
  have l0 := h.low
  go_enter Tryz.func50, Tryz.ntmps50
  go_wp2_with fail
  refine (addr_det b A cap l at_ _ h0 hh).mono ?_
  rintro e w1 ⟨six, hi, lo, at1, hF, rfl, hfine, ⟨ha1, ha2⟩, hs1, hg1⟩
  have HR := Lib.hid (rpF_of hF)
  clear hF
  have HFN := Lib.hid hfine
  have hhi : U64 hi ∧ U64 lo := ⟨hfine.1, hfine.2.1⟩
  have hz := (hg1.block w.heap.size (by simp) (fun e => by injection e with e; omega)).trans (heap_alloc_new w (pfBox false 0 0 0))
  have hl1 := lt_of_block hz
  have HG1 := Lib.hid (grown_alloc_then hg1)
  have HZ := Lib.hid hz
  have HI := Lib.hid hhi
  have hb1 := hs1.lt
  clear hfine hg1 hz h h0 hhi
  go_wp2_with fail
  generalize hW : World.alloc _ _ = W2
  have hs2 : Str W2 b A cap l at1 := by rw [← hW]; exact (hs1.alloc _).alloc _
  have hp2 : W2.heap[w1.heap.size + 1]? = some (.cells (([0, 8, 24, 27, 28, 29, 30, 31, 32] : List Int).map (Value.int .i64)).toArray 3 (0, 0)) := by
    rw [← hW]
    have := heap_alloc_new (w1.alloc (addrBox six hi lo)) (.cells (([0, 8, 24, 27, 28, 29, 30, 31, 32] : List Int).map (Value.int .i64)).toArray 3)
    simp only [Re_size] at this
    exact this
  have hx2 : W2.heap[w1.heap.size]? = some (addrBox six hi lo) := by rw [← hW]; exact (heap_alloc_old _ _ (by simp)).trans (heap_alloc_new w1 _)
  have hz2 : W2.heap[w.heap.size]? = some (pfBox false 0 0 0) := by rw [← hW]; exact (heap_alloc_old _ _ (by simp <;> omega)).trans ((heap_alloc_old _ _ hl1).trans HZ.out)
  have hg2 : w.grownBy W2 (some b) := by rw [← hW]; exact grown_of_box (grown_of_box HG1.out)
  clear hW HG1 HZ hs1
  refine (pick_any b A cap l at1 W2 hs2 (by omega) (w1.heap.size + 1) [0, 8, 24, 27, 28, 29, 30, 31, 32] hp2 (by omega) (by simp) (by simp) 9 9 rfl).mono ?_
  rintro e w3 ⟨rfl, hs3, hg3⟩
  have hbits := pick_get (P := fun v => 0 ≤ v ∧ v ≤ 32) (vs := [0, 8, 24, 27, 28, 29, 30, 31, 32]) (by simp) l at1 (by simp)
  generalize ([0, 8, 24, 27, 28, 29, 30, 31, 32] : List Int).getD (drawOf l at1 (([0, 8, 24, 27, 28, 29, 30, 31, 32] : List Int).length : Int)).toNat 0 = bits1 at *
  have hx3 := (hg3.block _ (lt_of_block hx2) (fun e => by injection e with e; omega)).trans hx2
  have HZ3 := Lib.hid ((hg3.block _ (lt_of_block hz2) (fun e => by injection e with e; omega)).trans hz2)
  have HG3 := Lib.hid (hg2.andThen hg3 (fun _ h => .inr h))
  clear hp2 hx2 hz2 hg2 hg3 hs2
  obtain ⟨x0, x1, x2, -⟩ := res3 hx3
  have HX3 := Lib.hid hx3
  clear hx3
  cases six
  · obtain ⟨m, hm⟩ := Int.eq_ofNat_of_zero_le (show 0 ≤ lenA false - bits1 by unfold lenA; simp; omega)
    have hm2 : m ≤ 128 := by unfold lenA at hm; simp at hm; omega
    have HM := Lib.hid hm
    clear hm
    go_wp2_with fail
    clear x0 x1 x2
    refine (maskOf_det false hi lo bits1 w3 HI.out.1 HI.out.2 m HM.out hm2 hbits.1).mono ?_
    rintro e w4 ⟨s4, h4, l4, hmf, rfl, uh, ul, hb4⟩
    have HQ := Lib.hid (HR.out.trans (pfMk_of HM.out hmf))
    have HPR := Lib.hid (mask_right HFN.out HM.out hm2 hbits.1 hmf)
    clear HR hmf
    have HG4 := Lib.hid (HG3.out.andThen (grownB hb4 (some b)) (fun _ h => .inr h))
    have hz4 := (hb4.block _ (lt_of_block HZ3.out)).trans HZ3.out
    have HZ4 := Lib.hid hz4
    have hs4 := hs3.grown (grownB hb4 none) (fun k e => by cases e)
    obtain ⟨⟨z0, z1, z2, z3⟩, f0, f1, f2, f3⟩ := res4 hz4
    clear hb4 hz4 HG3 HZ3 hs3
    go_wp2_with fail
    clear z0 z1 z2 z3 f0 f1 f2 f3
    generalize hW : World.setCell _ _ _ = W9
    have hr := re4 HZ4.out hW
    obtain ⟨⟨y0, y1, y2, y3⟩, -⟩ := res4 hr.blk
    refine bodyPost_ret (v := .agg #[.bool s4, .int .u64 h4, .int .u64 l4, .int .i64 bits1]) (by simp [results, Tryz.results50, go_sem, y0, y1, y2, y3]) rfl ⟨s4, h4, l4, bits1, _, ⟨HQ.out, HPR.out⟩, rfl, strX_mk (hr.str hs4 hbl) (hr.grown HG4.out (.inl (Nat.le_refl _))) (by omega) (by omega)⟩
  · go_wp2_with fail
    clear x0 x1 x2
    refine (pick_any b A cap l (at1 + 1) _ (hs3.alloc _) (by omega) w3.heap.size [0, 8, 32, 48, 63, 64, 65, 96, 127, 128] (by rw [heap_alloc_new]; rfl) (by have := hs3.lt; omega) (by simp) (by simp) 10 10 rfl).mono ?_
    rintro e w4 ⟨rfl, hs4, hg4⟩
    have hbit2 := pick_get (P := fun v => 0 ≤ v ∧ v ≤ 128) (vs := [0, 8, 32, 48, 63, 64, 65, 96, 127, 128]) (by simp) l (at1 + 1) (by simp)
    generalize ([0, 8, 32, 48, 63, 64, 65, 96, 127, 128] : List Int).getD (drawOf l (at1 + 1) (([0, 8, 32, 48, 63, 64, 65, 96, 127, 128] : List Int).length : Int)).toNat 0 = bits2 at *
    have hx4 := (hg4.block _ (by have := lt_of_block HX3.out; simp; omega) (fun e => by injection e with e; omega)).trans ((heap_alloc_old w3 _ (lt_of_block HX3.out)).trans HX3.out)
    have HZ4 := Lib.hid ((hg4.block _ (by have := lt_of_block HZ3.out; simp; omega) (fun e => by injection e with e; omega)).trans ((heap_alloc_old w3 _ (lt_of_block HZ3.out)).trans HZ3.out))
    have HG4 := Lib.hid (HG3.out.andThen (grown_alloc_then hg4) (fun _ h => .inr h))
    obtain ⟨x0, x1, x2, -⟩ := res3 hx4
    clear hx4 hg4 HG3 HZ3 HX3 hs3 hbits
    obtain ⟨m, hm⟩ := Int.eq_ofNat_of_zero_le (show 0 ≤ lenA true - bits2 by unfold lenA; simp; omega)
    have hm2 : m ≤ 128 := by unfold lenA at hm; simp at hm; omega
    have HM := Lib.hid hm
    clear hm
    go_wp2_with fail
    clear x0 x1 x2
    refine (maskOf_det true hi lo bits2 w4 HI.out.1 HI.out.2 m HM.out hm2 hbit2.1).mono ?_
    rintro e w5 ⟨s4, h4, l4, hmf, rfl, uh, ul, hb5⟩
    have HQ := Lib.hid (HR.out.trans (pfMk_of HM.out hmf))
    have HPR := Lib.hid (mask_right HFN.out HM.out hm2 hbit2.1 hmf)
    clear HR hmf
    have HG5 := Lib.hid (HG4.out.andThen (grownB hb5 (some b)) (fun _ h => .inr h))
    have hz5 := (hb5.block _ (lt_of_block HZ4.out)).trans HZ4.out
    have HZ5 := Lib.hid hz5
    have hs5 := hs4.grown (grownB hb5 none) (fun k e => by cases e)
    obtain ⟨⟨z0, z1, z2, z3⟩, f0, f1, f2, f3⟩ := res4 hz5
    clear hb5 hz5 HG4 HZ4 hs4
    go_wp2_with fail
    clear z0 z1 z2 z3 f0 f1 f2 f3
    generalize hW : World.setCell _ _ _ = W9
    have hr := re4 HZ5.out hW
    obtain ⟨⟨y0, y1, y2, y3⟩, -⟩ := res4 hr.blk
    refine bodyPost_ret (v := .agg #[.bool s4, .int .u64 h4, .int .u64 l4, .int .i64 bits2]) (by simp [results, Tryz.results50, go_sem, y0, y1, y2, y3]) rfl ⟨s4, h4, l4, bits2, _, ⟨HQ.out, HPR.out⟩, rfl, strX_mk (hr.str hs5 hbl) (hr.grown HG5.out (.inl (Nat.le_refl _))) (by omega) (by omega)⟩
end Go.Proofs.YtcmfkheohhfpiaaGreatDoor

namespace Go.Proofs.YtcmfkheohhfpiaaGreatDoor
open Go.RowKit Go.Hw
set_option maxRecDepth 100000 in
set_option maxHeartbeats 1000000 in
theorem checkPrefix_ok (s : Bool) (h l b : Int) (w : World) (uh : U64 h) (ul : U64 l) (ha : addrCode s h l = 0) (hr : 0 ≤ b ∧ b ≤ lenA s) (m : Nat) (hm : lenA s - b = m) (hm2 : m ≤ 128) (hc1 : clr h (m - 64) = h) (hc2 : clr l (min 64 m) = l) :
    Calls Tryz.prog 43 #[.agg #[.bool s, .int .u64 h, .int .u64 l, .int .i64 b]] w fun e w' => e = .returned (.int .i64 0) ∧ Below w.heap.size w w' := by
  have HA := Lib.hid ha
  have HM := Lib.hid hm
  have HC1 := Lib.hid hc1
  have HC2 := Lib.hid hc2
  have hin : (decide (b < 0) || decide (lenA s < b)) = false := by simp; omega
  have HIN := Lib.hid hin
  have b0 : (w.alloc (pfBox s h l b)).heap[w.heap.size]? = some (pfBox s h l b) := heap_alloc_new w _
  obtain ⟨⟨x0, x1, x2, x3⟩, -⟩ := res4 b0
  have HB := Lib.hid ((Below.refl w.heap.size w).alloc (Nat.le_refl _) (pfBox s h l b))
  have hsz : w.heap.size + 1 ≤ (w.alloc (pfBox s h l b)).heap.size := by simp
  unfold pfBox at x0 x1 x2 x3 hsz
  have hu := uh.1
  have hq := run_eq_addr 9998 s s h h l l
  have hgd := guard_addr
  rw [show (s == s && (h == h && l == l)) = true by simp] at hq
  clear b0 ha hm hc1 hc2 hin
  go_enter Tryz.func43, Tryz.ntmps43
  go_wp2_with fail
  generalize hW : World.alloc _ _ = W at x0 x1 x2 x3 hsz ⊢
  have HBW : Hid (Below w.heap.size w W) := Lib.hid (by rw [← hW]; exact HB.out)
  clear hW HB
  refine (checkAddr_any s h l _ hu).mono ?_
  rintro e W1 ⟨rfl, hb1⟩
  rw [HA.out]
  have x0 : W1.cell? ⟨w.heap.size, 0, none⟩ = some (.bool s) := (hb1.cell (p := ⟨w.heap.size, 0, none⟩) (by first | (simp; done) | (simp; omega) | omega)).trans (by first | assumption | (go_simp; done)); have x1 : W1.cell? ⟨w.heap.size, 1, none⟩ = some (.int .u64 h) := (hb1.cell (p := ⟨w.heap.size, 1, none⟩) (by first | (simp; done) | (simp; omega) | omega)).trans (by first | assumption | (go_simp; done)); have x2 : W1.cell? ⟨w.heap.size, 2, none⟩ = some (.int .u64 l) := (hb1.cell (p := ⟨w.heap.size, 2, none⟩) (by first | (simp; done) | (simp; omega) | omega)).trans (by first | assumption | (go_simp; done)); have x3 : W1.cell? ⟨w.heap.size, 3, none⟩ = some (.int .i64 b) := (hb1.cell (p := ⟨w.heap.size, 3, none⟩) (by first | (simp; done) | (simp; omega) | omega)).trans (by first | assumption | (go_simp; done))
  have hsz : w.heap.size + 1 ≤ W1.heap.size := (by have := hb1.size; (try simp at this); omega); have hl0 : w.heap.size < W1.heap.size := (by omega)
  have HBW : Hid (Below w.heap.size w W1) := (by first | exact Lib.hid (HBW.out.trans (hb1.mono (by omega))) | exact Lib.hid (HBW.out.drew.trans (hb1.mono (show w.heap.size ≤ W.heap.size by omega))))
  clear hb1 hu
  go_wp2_with fail
  go_region_held3 (fun w' => w'.cell? ⟨w.heap.size, 0, none⟩ = some (.bool s) ∧ w'.cell? ⟨w.heap.size, 1, none⟩ = some (.int .u64 h) ∧ w'.cell? ⟨w.heap.size, 2, none⟩ = some (.int .u64 l) ∧ w'.cell? ⟨w.heap.size, 3, none⟩ = some (.int .i64 b))
    (first | exact ⟨x0, x1, x2, x3⟩ | ((repeat' apply And.intro) <;> (first | (go_simp; done) | with_reducible assumption)))
    (first
      | (go_at_call 80; refine (spanLength_any _ _ _ _).mono ?_; rintro e W2 ⟨rfl, hb2⟩; have x0 : W2.cell? ⟨w.heap.size, 0, none⟩ = some (.bool s) := (hb2.cell (p := ⟨w.heap.size, 0, none⟩) (by first | (simp; done) | (simp; omega) | omega)).trans (by first | assumption | (go_simp; done)); have x1 : W2.cell? ⟨w.heap.size, 1, none⟩ = some (.int .u64 h) := (hb2.cell (p := ⟨w.heap.size, 1, none⟩) (by first | (simp; done) | (simp; omega) | omega)).trans (by first | assumption | (go_simp; done)); have x2 : W2.cell? ⟨w.heap.size, 2, none⟩ = some (.int .u64 l) := (hb2.cell (p := ⟨w.heap.size, 2, none⟩) (by first | (simp; done) | (simp; omega) | omega)).trans (by first | assumption | (go_simp; done)); have x3 : W2.cell? ⟨w.heap.size, 3, none⟩ = some (.int .i64 b) := (hb2.cell (p := ⟨w.heap.size, 3, none⟩) (by first | (simp; done) | (simp; omega) | omega)).trans (by first | assumption | (go_simp; done)); have hsz : w.heap.size + 1 ≤ W2.heap.size := (by have := hb2.size; (try simp at this); omega); have hl0 : w.heap.size < W2.heap.size := (by omega); have HBW : Hid (Below w.heap.size w W2) := (by first | exact Lib.hid (HBW.out.trans (hb2.mono (by omega))) | exact Lib.hid (HBW.out.drew.trans (hb2.mono (show w.heap.size ≤ W1.heap.size by omega)))))
      | (go_at_call 79; refine (outside_any _ _ _ _).mono ?_; rintro e W9 ⟨rfl, rfl⟩; rw [HIN.out]))
  go_wp2_with fail
  go_region_held3 (fun w' => w'.cell? ⟨w.heap.size, 0, none⟩ = some (.bool s) ∧ w'.cell? ⟨w.heap.size, 1, none⟩ = some (.int .u64 h) ∧ w'.cell? ⟨w.heap.size, 2, none⟩ = some (.int .u64 l) ∧ w'.cell? ⟨w.heap.size, 3, none⟩ = some (.int .i64 b))
    (first | exact ⟨x0, x1, x2, x3⟩ | ((repeat' apply And.intro) <;> (first | (go_simp; done) | with_reducible assumption)))
    (first
      | (go_at_call 81; refine (masked_any s h l b _ uh ul m HM.out hm2).mono ?_; rintro e W3 ⟨rfl, hb3⟩; rw [HC1.out, HC2.out]; have x0 : W3.cell? ⟨w.heap.size, 0, none⟩ = some (.bool s) := (hb3.cell (p := ⟨w.heap.size, 0, none⟩) (by first | (simp; done) | (simp; omega) | omega)).trans (by first | assumption | (go_simp; done)); have x1 : W3.cell? ⟨w.heap.size, 1, none⟩ = some (.int .u64 h) := (hb3.cell (p := ⟨w.heap.size, 1, none⟩) (by first | (simp; done) | (simp; omega) | omega)).trans (by first | assumption | (go_simp; done)); have x2 : W3.cell? ⟨w.heap.size, 2, none⟩ = some (.int .u64 l) := (hb3.cell (p := ⟨w.heap.size, 2, none⟩) (by first | (simp; done) | (simp; omega) | omega)).trans (by first | assumption | (go_simp; done)); have x3 : W3.cell? ⟨w.heap.size, 3, none⟩ = some (.int .i64 b) := (hb3.cell (p := ⟨w.heap.size, 3, none⟩) (by first | (simp; done) | (simp; omega) | omega)).trans (by first | assumption | (go_simp; done)); have hsz : w.heap.size + 1 ≤ W3.heap.size := (by have := hb3.size; (try simp at this); omega); have hl0 : w.heap.size < W3.heap.size := (by omega); have HBW : Hid (Below w.heap.size w W3) := (by first | exact Lib.hid (HBW.out.trans (hb3.mono (by omega))) | exact Lib.hid (HBW.out.drew.trans (hb3.mono (show w.heap.size ≤ W2.heap.size by omega))))))
  go_wp2_with fail
  go_ret
  exact ⟨rfl, HBW.out⟩

set_option maxRecDepth 100000 in
set_option maxHeartbeats 1000000 in
theorem checkPrefix_1 (s : Bool) (h l b : Int) (w : World) (uh : U64 h) (_ul : U64 l) (ha : addrCode s h l = 3) :
    Calls Tryz.prog 43 #[.agg #[.bool s, .int .u64 h, .int .u64 l, .int .i64 b]] w fun e w' => e = .returned (.int .i64 3) ∧ Below w.heap.size w w' := by
  have HA := Lib.hid ha
  have b0 : (w.alloc (pfBox s h l b)).heap[w.heap.size]? = some (pfBox s h l b) := heap_alloc_new w _
  obtain ⟨⟨x0, x1, x2, x3⟩, -⟩ := res4 b0
  have HB := Lib.hid ((Below.refl w.heap.size w).alloc (Nat.le_refl _) (pfBox s h l b))
  have hsz : w.heap.size + 1 ≤ (w.alloc (pfBox s h l b)).heap.size := by simp
  unfold pfBox at x0 x1 x2 x3 hsz
  have hu := uh.1
  clear b0 ha
  go_enter Tryz.func43, Tryz.ntmps43
  go_wp2_with fail
  generalize hW : World.alloc _ _ = W at x0 x1 x2 x3 hsz ⊢
  have HBW : Hid (Below w.heap.size w W) := Lib.hid (by rw [← hW]; exact HB.out)
  clear hW HB
  refine (checkAddr_any s h l _ hu).mono ?_
  rintro e W1 ⟨rfl, hb1⟩
  rw [HA.out]
  have x0 : W1.cell? ⟨w.heap.size, 0, none⟩ = some (.bool s) := (hb1.cell (p := ⟨w.heap.size, 0, none⟩) (by first | (simp; done) | (simp; omega) | omega)).trans (by first | assumption | (go_simp; done)); have x1 : W1.cell? ⟨w.heap.size, 1, none⟩ = some (.int .u64 h) := (hb1.cell (p := ⟨w.heap.size, 1, none⟩) (by first | (simp; done) | (simp; omega) | omega)).trans (by first | assumption | (go_simp; done)); have x2 : W1.cell? ⟨w.heap.size, 2, none⟩ = some (.int .u64 l) := (hb1.cell (p := ⟨w.heap.size, 2, none⟩) (by first | (simp; done) | (simp; omega) | omega)).trans (by first | assumption | (go_simp; done)); have x3 : W1.cell? ⟨w.heap.size, 3, none⟩ = some (.int .i64 b) := (hb1.cell (p := ⟨w.heap.size, 3, none⟩) (by first | (simp; done) | (simp; omega) | omega)).trans (by first | assumption | (go_simp; done))
  have hsz : w.heap.size + 1 ≤ W1.heap.size := (by have := hb1.size; (try simp at this); omega); have hl0 : w.heap.size < W1.heap.size := (by omega)
  have HBW : Hid (Below w.heap.size w W1) := (by first | exact Lib.hid (HBW.out.trans (hb1.mono (by omega))) | exact Lib.hid (HBW.out.drew.trans (hb1.mono (show w.heap.size ≤ W.heap.size by omega))))
  clear hb1 hu
  go_wp2_with fail
  go_ret
  exact ⟨rfl, HBW.out⟩
set_option maxRecDepth 100000 in
set_option maxHeartbeats 1000000 in
theorem checkPrefix_2 (s : Bool) (h l b : Int) (w : World) (uh : U64 h) (_ul : U64 l) (ha : addrCode s h l = 0) (hr : ¬ (0 ≤ b ∧ b ≤ lenA s)) :
    Calls Tryz.prog 43 #[.agg #[.bool s, .int .u64 h, .int .u64 l, .int .i64 b]] w fun e w' => e = .returned (.int .i64 1) ∧ Below w.heap.size w w' := by
  have HA := Lib.hid ha
  have hin : (decide (b < 0) || decide (lenA s < b)) = true := by simp; omega
  have HIN := Lib.hid hin
  have b0 : (w.alloc (pfBox s h l b)).heap[w.heap.size]? = some (pfBox s h l b) := heap_alloc_new w _
  obtain ⟨⟨x0, x1, x2, x3⟩, -⟩ := res4 b0
  have HB := Lib.hid ((Below.refl w.heap.size w).alloc (Nat.le_refl _) (pfBox s h l b))
  have hsz : w.heap.size + 1 ≤ (w.alloc (pfBox s h l b)).heap.size := by simp
  unfold pfBox at x0 x1 x2 x3 hsz
  have hu := uh.1
  clear b0 ha hin hr
  go_enter Tryz.func43, Tryz.ntmps43
  go_wp2_with fail
  generalize hW : World.alloc _ _ = W at x0 x1 x2 x3 hsz ⊢
  have HBW : Hid (Below w.heap.size w W) := Lib.hid (by rw [← hW]; exact HB.out)
  clear hW HB
  refine (checkAddr_any s h l _ hu).mono ?_
  rintro e W1 ⟨rfl, hb1⟩
  rw [HA.out]
  have x0 : W1.cell? ⟨w.heap.size, 0, none⟩ = some (.bool s) := (hb1.cell (p := ⟨w.heap.size, 0, none⟩) (by first | (simp; done) | (simp; omega) | omega)).trans (by first | assumption | (go_simp; done)); have x1 : W1.cell? ⟨w.heap.size, 1, none⟩ = some (.int .u64 h) := (hb1.cell (p := ⟨w.heap.size, 1, none⟩) (by first | (simp; done) | (simp; omega) | omega)).trans (by first | assumption | (go_simp; done)); have x2 : W1.cell? ⟨w.heap.size, 2, none⟩ = some (.int .u64 l) := (hb1.cell (p := ⟨w.heap.size, 2, none⟩) (by first | (simp; done) | (simp; omega) | omega)).trans (by first | assumption | (go_simp; done)); have x3 : W1.cell? ⟨w.heap.size, 3, none⟩ = some (.int .i64 b) := (hb1.cell (p := ⟨w.heap.size, 3, none⟩) (by first | (simp; done) | (simp; omega) | omega)).trans (by first | assumption | (go_simp; done))
  have hsz : w.heap.size + 1 ≤ W1.heap.size := (by have := hb1.size; (try simp at this); omega); have hl0 : w.heap.size < W1.heap.size := (by omega)
  have HBW : Hid (Below w.heap.size w W1) := (by first | exact Lib.hid (HBW.out.trans (hb1.mono (by omega))) | exact Lib.hid (HBW.out.drew.trans (hb1.mono (show w.heap.size ≤ W.heap.size by omega))))
  clear hb1 hu
  go_wp2_with fail
  go_region_held3 (fun w' => w'.cell? ⟨w.heap.size, 0, none⟩ = some (.bool s) ∧ w'.cell? ⟨w.heap.size, 1, none⟩ = some (.int .u64 h) ∧ w'.cell? ⟨w.heap.size, 2, none⟩ = some (.int .u64 l) ∧ w'.cell? ⟨w.heap.size, 3, none⟩ = some (.int .i64 b))
    (first | exact ⟨x0, x1, x2, x3⟩ | ((repeat' apply And.intro) <;> (first | (go_simp; done) | with_reducible assumption)))
    (first
      | (go_at_call 80; refine (spanLength_any _ _ _ _).mono ?_; rintro e W2 ⟨rfl, hb2⟩; have x0 : W2.cell? ⟨w.heap.size, 0, none⟩ = some (.bool s) := (hb2.cell (p := ⟨w.heap.size, 0, none⟩) (by first | (simp; done) | (simp; omega) | omega)).trans (by first | assumption | (go_simp; done)); have x1 : W2.cell? ⟨w.heap.size, 1, none⟩ = some (.int .u64 h) := (hb2.cell (p := ⟨w.heap.size, 1, none⟩) (by first | (simp; done) | (simp; omega) | omega)).trans (by first | assumption | (go_simp; done)); have x2 : W2.cell? ⟨w.heap.size, 2, none⟩ = some (.int .u64 l) := (hb2.cell (p := ⟨w.heap.size, 2, none⟩) (by first | (simp; done) | (simp; omega) | omega)).trans (by first | assumption | (go_simp; done)); have x3 : W2.cell? ⟨w.heap.size, 3, none⟩ = some (.int .i64 b) := (hb2.cell (p := ⟨w.heap.size, 3, none⟩) (by first | (simp; done) | (simp; omega) | omega)).trans (by first | assumption | (go_simp; done)); have hsz : w.heap.size + 1 ≤ W2.heap.size := (by have := hb2.size; (try simp at this); omega); have hl0 : w.heap.size < W2.heap.size := (by omega); have HBW : Hid (Below w.heap.size w W2) := (by first | exact Lib.hid (HBW.out.trans (hb2.mono (by omega))) | exact Lib.hid (HBW.out.drew.trans (hb2.mono (show w.heap.size ≤ W1.heap.size by omega)))))
      | (go_at_call 79; refine (outside_any _ _ _ _).mono ?_; rintro e W9 ⟨rfl, rfl⟩; rw [HIN.out]))
  go_wp2_with fail
  go_ret
  exact ⟨rfl, HBW.out⟩
set_option maxRecDepth 100000 in
set_option maxHeartbeats 1000000 in
theorem checkPrefix_3 (s : Bool) (h l b : Int) (w : World) (uh : U64 h) (ul : U64 l) (ha : addrCode s h l = 0) (hr : 0 ≤ b ∧ b ≤ lenA s) (m : Nat) (hm : lenA s - b = m) (hm2 : m ≤ 128) (hne : ¬ (clr h (m - 64) = h ∧ clr l (min 64 m) = l)) :
    Calls Tryz.prog 43 #[.agg #[.bool s, .int .u64 h, .int .u64 l, .int .i64 b]] w fun e w' => e = .returned (.int .i64 3) ∧ Below w.heap.size w w' := by
  have HA := Lib.hid ha
  have HM := Lib.hid hm
  have hin : (decide (b < 0) || decide (lenA s < b)) = false := by simp; omega
  have HIN := Lib.hid hin
  have b0 : (w.alloc (pfBox s h l b)).heap[w.heap.size]? = some (pfBox s h l b) := heap_alloc_new w _
  obtain ⟨⟨x0, x1, x2, x3⟩, -⟩ := res4 b0
  have HB := Lib.hid ((Below.refl w.heap.size w).alloc (Nat.le_refl _) (pfBox s h l b))
  have hsz : w.heap.size + 1 ≤ (w.alloc (pfBox s h l b)).heap.size := by simp
  unfold pfBox at x0 x1 x2 x3 hsz
  have hu := uh.1
  have hq := fun W => (run_eq_addr 9998 s s (clr h (m - 64)) h (clr l (min 64 m)) l W).trans (show _ = Result.ok false W from by
    rw [show (s == s && (clr h (m - 64) == h && clr l (min 64 m) == l)) = false from by
      cases e1 : (clr h (m - 64) == h)
      · simp
      · cases e2 : (clr l (min 64 m) == l)
        · simp
        · exact absurd ⟨by simpa using e1, by simpa using e2⟩ hne])
  have hgd := guard_addr
  clear b0 ha hm hin hne
  go_enter Tryz.func43, Tryz.ntmps43
  go_wp2_with fail
  generalize hW : World.alloc _ _ = W at x0 x1 x2 x3 hsz ⊢
  have HBW : Hid (Below w.heap.size w W) := Lib.hid (by rw [← hW]; exact HB.out)
  clear hW HB
  refine (checkAddr_any s h l _ hu).mono ?_
  rintro e W1 ⟨rfl, hb1⟩
  rw [HA.out]
  have x0 : W1.cell? ⟨w.heap.size, 0, none⟩ = some (.bool s) := (hb1.cell (p := ⟨w.heap.size, 0, none⟩) (by first | (simp; done) | (simp; omega) | omega)).trans (by first | assumption | (go_simp; done)); have x1 : W1.cell? ⟨w.heap.size, 1, none⟩ = some (.int .u64 h) := (hb1.cell (p := ⟨w.heap.size, 1, none⟩) (by first | (simp; done) | (simp; omega) | omega)).trans (by first | assumption | (go_simp; done)); have x2 : W1.cell? ⟨w.heap.size, 2, none⟩ = some (.int .u64 l) := (hb1.cell (p := ⟨w.heap.size, 2, none⟩) (by first | (simp; done) | (simp; omega) | omega)).trans (by first | assumption | (go_simp; done)); have x3 : W1.cell? ⟨w.heap.size, 3, none⟩ = some (.int .i64 b) := (hb1.cell (p := ⟨w.heap.size, 3, none⟩) (by first | (simp; done) | (simp; omega) | omega)).trans (by first | assumption | (go_simp; done))
  have hsz : w.heap.size + 1 ≤ W1.heap.size := (by have := hb1.size; (try simp at this); omega); have hl0 : w.heap.size < W1.heap.size := (by omega)
  have HBW : Hid (Below w.heap.size w W1) := (by first | exact Lib.hid (HBW.out.trans (hb1.mono (by omega))) | exact Lib.hid (HBW.out.drew.trans (hb1.mono (show w.heap.size ≤ W.heap.size by omega))))
  clear hb1 hu
  go_wp2_with fail
  go_region_held3 (fun w' => w'.cell? ⟨w.heap.size, 0, none⟩ = some (.bool s) ∧ w'.cell? ⟨w.heap.size, 1, none⟩ = some (.int .u64 h) ∧ w'.cell? ⟨w.heap.size, 2, none⟩ = some (.int .u64 l) ∧ w'.cell? ⟨w.heap.size, 3, none⟩ = some (.int .i64 b))
    (first | exact ⟨x0, x1, x2, x3⟩ | ((repeat' apply And.intro) <;> (first | (go_simp; done) | with_reducible assumption)))
    (first
      | (go_at_call 80; refine (spanLength_any _ _ _ _).mono ?_; rintro e W2 ⟨rfl, hb2⟩; have x0 : W2.cell? ⟨w.heap.size, 0, none⟩ = some (.bool s) := (hb2.cell (p := ⟨w.heap.size, 0, none⟩) (by first | (simp; done) | (simp; omega) | omega)).trans (by first | assumption | (go_simp; done)); have x1 : W2.cell? ⟨w.heap.size, 1, none⟩ = some (.int .u64 h) := (hb2.cell (p := ⟨w.heap.size, 1, none⟩) (by first | (simp; done) | (simp; omega) | omega)).trans (by first | assumption | (go_simp; done)); have x2 : W2.cell? ⟨w.heap.size, 2, none⟩ = some (.int .u64 l) := (hb2.cell (p := ⟨w.heap.size, 2, none⟩) (by first | (simp; done) | (simp; omega) | omega)).trans (by first | assumption | (go_simp; done)); have x3 : W2.cell? ⟨w.heap.size, 3, none⟩ = some (.int .i64 b) := (hb2.cell (p := ⟨w.heap.size, 3, none⟩) (by first | (simp; done) | (simp; omega) | omega)).trans (by first | assumption | (go_simp; done)); have hsz : w.heap.size + 1 ≤ W2.heap.size := (by have := hb2.size; (try simp at this); omega); have hl0 : w.heap.size < W2.heap.size := (by omega); have HBW : Hid (Below w.heap.size w W2) := (by first | exact Lib.hid (HBW.out.trans (hb2.mono (by omega))) | exact Lib.hid (HBW.out.drew.trans (hb2.mono (show w.heap.size ≤ W1.heap.size by omega)))))
      | (go_at_call 79; refine (outside_any _ _ _ _).mono ?_; rintro e W9 ⟨rfl, rfl⟩; rw [HIN.out]))
  go_wp2_with fail
  go_region_held3 (fun w' => w'.cell? ⟨w.heap.size, 0, none⟩ = some (.bool s) ∧ w'.cell? ⟨w.heap.size, 1, none⟩ = some (.int .u64 h) ∧ w'.cell? ⟨w.heap.size, 2, none⟩ = some (.int .u64 l) ∧ w'.cell? ⟨w.heap.size, 3, none⟩ = some (.int .i64 b))
    (first | exact ⟨x0, x1, x2, x3⟩ | ((repeat' apply And.intro) <;> (first | (go_simp; done) | with_reducible assumption)))
    (first
      | (go_at_call 81; refine (masked_any s h l b _ uh ul m HM.out hm2).mono ?_; rintro e W3 ⟨rfl, hb3⟩; have x0 : W3.cell? ⟨w.heap.size, 0, none⟩ = some (.bool s) := (hb3.cell (p := ⟨w.heap.size, 0, none⟩) (by first | (simp; done) | (simp; omega) | omega)).trans (by first | assumption | (go_simp; done)); have x1 : W3.cell? ⟨w.heap.size, 1, none⟩ = some (.int .u64 h) := (hb3.cell (p := ⟨w.heap.size, 1, none⟩) (by first | (simp; done) | (simp; omega) | omega)).trans (by first | assumption | (go_simp; done)); have x2 : W3.cell? ⟨w.heap.size, 2, none⟩ = some (.int .u64 l) := (hb3.cell (p := ⟨w.heap.size, 2, none⟩) (by first | (simp; done) | (simp; omega) | omega)).trans (by first | assumption | (go_simp; done)); have x3 : W3.cell? ⟨w.heap.size, 3, none⟩ = some (.int .i64 b) := (hb3.cell (p := ⟨w.heap.size, 3, none⟩) (by first | (simp; done) | (simp; omega) | omega)).trans (by first | assumption | (go_simp; done)); have hsz : w.heap.size + 1 ≤ W3.heap.size := (by have := hb3.size; (try simp at this); omega); have hl0 : w.heap.size < W3.heap.size := (by omega); have HBW : Hid (Below w.heap.size w W3) := (by first | exact Lib.hid (HBW.out.trans (hb3.mono (by omega))) | exact Lib.hid (HBW.out.drew.trans (hb3.mono (show w.heap.size ≤ W2.heap.size by omega))))))
  go_wp2_with fail
  go_ret
  exact ⟨rfl, HBW.out⟩
theorem addrCode_or (s : Bool) (h l : Int) : addrCode s h l = 0 ∨ addrCode s h l = 3 := by
  unfold addrCode; split
  · exact .inr rfl
  · exact .inl rfl
/-- What is wrong with a prefix. -/
def pfS (s : Bool) (h l b : Int) : Int :=
  if addrCode s h l ≠ 0 then 3
  else if ¬ (0 ≤ b ∧ b ≤ lenA s) then 1
  else if clr h ((lenA s - b).toNat - 64) = h ∧ clr l (min 64 (lenA s - b).toNat) = l then 0
  else 3
theorem pfS_right {s : Bool} {h l b : Int} (H : PfRight s h l b) : pfS s h l b = 0 := by
  obtain ⟨hf, hb, m, hm, hm2, h1, h2⟩ := H
  unfold pfS
  rw [hf.code, if_neg (by decide), if_neg (fun hn => hn ⟨hb, by omega⟩), show (lenA s - b).toNat = m by omega, if_pos ⟨h1, h2⟩]
theorem checkPrefix_any (s : Bool) (h l b : Int) (w : World) (uh : U64 h) (ul : U64 l) :
    Calls Tryz.prog 43 #[.agg #[.bool s, .int .u64 h, .int .u64 l, .int .i64 b]] w fun e w' => e = .returned (.int .i64 (pfS s h l b)) ∧ Below w.heap.size w w' := by
  have hl : lenA s ≤ 128 := by unfold lenA; split <;> omega
  unfold pfS
  rcases addrCode_or s h l with ha | ha
  · rw [if_neg (by rw [ha]; decide)]
    by_cases hr : 0 ≤ b ∧ b ≤ lenA s
    · rw [if_neg (fun hn => hn hr)]
      obtain ⟨m, hm⟩ := Int.eq_ofNat_of_zero_le (show 0 ≤ lenA s - b by omega)
      rw [show (lenA s - b).toNat = m by omega]
      by_cases hc : clr h (m - 64) = h ∧ clr l (min 64 m) = l
      · rw [if_pos hc]
        exact checkPrefix_ok s h l b w uh ul ha hr m hm (by omega) hc.1 hc.2
      · rw [if_neg hc]
        exact checkPrefix_3 s h l b w uh ul ha hr m hm (by omega) hc
    · rw [if_pos hr]
      exact checkPrefix_2 s h l b w uh ul ha hr
  · rw [if_pos (by rw [ha]; decide)]
    exact checkPrefix_1 s h l b w uh ul ha
end Go.Proofs.YtcmfkheohhfpiaaGreatDoor
