/- Masks of the program: span.Length, low, Masked. -/
import Derived.Test.YtollmagiifkicaaGreatDoorMkA
namespace Go.Proofs.YtollmagiifkicaaGreatDoor
open Go.RowKit Go.Hw

theorem spanLength_any (six : Bool) (hi lo : Int) (w : World) : Calls Tryz.prog 124 #[.agg #[.bool six, .int .u64 hi, .int .u64 lo]] w fun e w' => e = .returned (.int .i64 (lenA six)) ∧ Below w.heap.size w w' := by
  have HB := Lib.hid ((Below.refl w.heap.size w).alloc (Nat.le_refl _) (.cells #[.bool six, .int .u64 hi, .int .u64 lo] 37))
  cases six
  · go_enter Tryz.func124, Tryz.ntmps124
    go_wp2_with fail
    go_ret
    exact ⟨rfl, HB.out⟩
  · go_enter Tryz.func124, Tryz.ntmps124
    go_wp2_with fail
    go_ret
    exact ⟨rfl, HB.out⟩
/-- So many bits at the end. -/
def lowM (k : Nat) : Int := 2 ^ k - 1
theorem pow_le64 {k : Nat} (h : k ≤ 63) : (2 : Int) ^ k ≤ 9223372036854775808 ∧ 1 ≤ (2 : Int) ^ k := by
  have h1 : (2 : Nat) ^ k ≤ 2 ^ 63 := Nat.pow_le_pow_right (by omega) h
  have h2 : (2 : Nat) ^ 63 = 9223372036854775808 := by decide
  have h3 : 1 ≤ (2 : Nat) ^ k := Nat.one_le_two_pow
  have e : (2 : Int) ^ k = ((2 ^ k : Nat) : Int) := by simp
  rw [e]
  generalize (2 : Nat) ^ k = P at *
  omega
set_option maxRecDepth 100000 in
theorem low_any (m : Nat) (w : World) (hm : m ≤ 128) : Calls Tryz.prog 126 #[.int .i64 m] w fun e w' => e = .returned (.tuple #[.int .u64 (lowM (m - 64)), .int .u64 (lowM (min 64 m))]) ∧ Below w.heap.size w w' := by
  by_cases h1 : 128 ≤ m
  · have : m = 128 := by omega
    subst this
    go_enter Tryz.func126, Tryz.ntmps126
    go_wp2_with fail
    go_ret2
    exact ⟨rfl, Below.refl _ _⟩
  by_cases h2 : 64 < m
  · obtain ⟨k, rfl⟩ : ∃ k, m = 64 + k := ⟨m - 64, by omega⟩
    obtain ⟨p1, p2⟩ := pow_le64 (k := k) (by omega)
    have e1 : ((64 + k : Nat) : Int) - 64 = (k : Int) := by omega
    have e2 : IntKind.u64.wrap ((2 : Int) ^ k) = 2 ^ k := IntWalk.u64_in _ (by omega)
    have e3 : IntKind.u64.wrap ((2 : Int) ^ k - 1) = 2 ^ k - 1 := IntWalk.u64_in _ (by omega)
    have e4 : min 64 (64 + k) = 64 := by omega
    have e5 : 64 + k - 64 = k := by omega
    rw [e4, e5]
    have E1 := Lib.hid e1
    clear e4 e5
    go_enter Tryz.func126, Tryz.ntmps126
    go_wp2_with fail
    go_ret2
    exact ⟨rfl, Below.refl _ _⟩
  by_cases h3 : m = 64
  · subst h3
    go_enter Tryz.func126, Tryz.ntmps126
    go_wp2_with fail
    go_ret2
    exact ⟨rfl, Below.refl _ _⟩
  · obtain ⟨p1, p2⟩ := pow_le64 (k := m) (by omega)
    have e2 : IntKind.u64.wrap ((2 : Int) ^ m) = 2 ^ m := IntWalk.u64_in _ (by omega)
    have e3 : IntKind.u64.wrap ((2 : Int) ^ m - 1) = 2 ^ m - 1 := IntWalk.u64_in _ (by omega)
    have e4 : min 64 m = m := by omega
    have e5 : m - 64 = 0 := by omega
    have e6 : ((m : Int) == 64) = false := by rw [beq_eq_false_iff_ne]; omega
    rw [e4, e5]
    clear e4 e5 h3
    go_enter Tryz.func126, Tryz.ntmps126
    go_wp2_with fail
    go_quiet (fail)
    go_wp2_with fail
    go_ret2
    exact ⟨rfl, ⟨rfl, rfl, rfl, Nat.le_refl _, fun _ _ => rfl⟩⟩
theorem andn64 {n : Int} (h : U64 n) {k : Nat} (hk : k ≤ 64) : bits .andNot .u64 n (lowM k) = clr n k := by
  obtain ⟨N, rfl⟩ := Int.eq_ofNat_of_zero_le h.1
  have hN : N < 18446744073709551616 := by have := h.2; omega
  have h1 : (2 : Nat) ^ k ≤ 2 ^ 64 := Nat.pow_le_pow_right (by omega) hk
  have h2 : (2 : Nat) ^ 64 = 18446744073709551616 := by decide
  have h3 : 1 ≤ (2 : Nat) ^ k := Nat.one_le_two_pow
  have e : lowM k = ((2 ^ k - 1 : Nat) : Int) := by
    unfold lowM
    have e' : (2 : Int) ^ k = ((2 ^ k : Nat) : Int) := by simp
    rw [e']
    generalize (2 : Nat) ^ k = P at *
    omega
  rw [e, u64_andNot_nat N _ hN (by omega)]
  have e2 : 18446744073709551615 - (2 ^ k - 1) = 2 ^ 64 - 2 ^ k := by omega
  rw [e2, nat_midmask 64 k N hk, Nat.mod_eq_of_lt (by omega)]
  unfold clr
  simp
set_option maxRecDepth 100000 in
set_option maxHeartbeats 1000000 in
theorem masked_any (s : Bool) (h l b : Int) (w : World) (uh : U64 h) (ul : U64 l) (m : Nat) (hm : lenA s - b = m) (hm2 : m ≤ 128) :
    Calls Tryz.prog 95 #[.agg #[.bool s, .int .u64 h, .int .u64 l], .int .i64 b] w fun e w' => e = .returned (.agg #[.bool s, .int .u64 (clr h (m - 64)), .int .u64 (clr l (min 64 m))]) ∧ Below w.heap.size w w' := by
  have HM := Lib.hid hm
  have hb : 0 ≤ lenA s ∧ lenA s ≤ 128 := by unfold lenA; split <;> omega
  obtain ⟨hb0, hb1⟩ := hb
  have hbb : -128 ≤ b ∧ b ≤ 128 := by omega
  clear hm
  have b0 : ((w.alloc (addrBox s h l)).alloc (addrBox false 0 0)).heap[w.heap.size]? = some (addrBox s h l) := (heap_alloc_old _ _ (by simp)).trans (heap_alloc_new w _)
  have b1 : ((w.alloc (addrBox s h l)).alloc (addrBox false 0 0)).heap[w.heap.size + 1]? = some (addrBox false 0 0) := by
    have := heap_alloc_new (w.alloc (addrBox s h l)) (addrBox false 0 0)
    simp only [Re_size] at this
    exact this
  have HB := Lib.hid (((Below.refl w.heap.size w).alloc (Nat.le_refl _) (addrBox s h l)).alloc (by simp) (addrBox false 0 0))
  go_enter Tryz.func95, Tryz.ntmps95
  go_wp2_with fail
  unfold addrBox at b0 b1
  generalize hW : World.alloc _ _ = W at b0 b1 ⊢
  have HBW : Hid (Below w.heap.size w W) := Lib.hid (by rw [← hW]; exact HB.out)
  clear hW HB
  refine (spanLength_any s h l W).mono ?_
  rintro e W1 ⟨rfl, hb1'⟩
  have hsub : lenA s - b = (m : Int) := HM.out
  have HSUB := Lib.hid hsub
  have c0 := (hb1'.block _ (lt_of_block b0)).trans b0
  have c1 := (hb1'.block _ (lt_of_block b1)).trans b1
  have HB1 := Lib.hid (HBW.out.trans (hb1'.mono HBW.out.size))
  clear hsub b0 b1 hb1' HBW
  go_wp2_with fail
  rw [HSUB.out]
  refine (low_any m W1 hm2).mono ?_
  rintro e W2 ⟨rfl, hb2'⟩
  have d0 := (hb2'.block _ (lt_of_block c0)).trans c0
  have d1 := (hb2'.block _ (lt_of_block c1)).trans c1
  have HB2 := Lib.hid (HB1.out.trans (hb2'.mono HB1.out.size))
  have D0 := Lib.hid d0
  have D1 := Lib.hid d1
  obtain ⟨x0, x1, x2, f0, f1, f2⟩ := res3 d0
  obtain ⟨y0, y1, y2, g0, g1, g2⟩ := res3 d1
  have v1 := andn64 uh (k := m - 64) (by omega)
  have v2 := andn64 ul (k := min 64 m) (by omega)
  have V1 := Lib.hid v1
  have V2 := Lib.hid v2
  clear c0 c1 d0 d1 hb2' HB1 v1 v2
  go_wp2_with fail
  rw [V1.out, V2.out]
  generalize clr h (m - 64) = ch
  generalize clr l (min 64 m) = cl
  clear x0 x1 x2 f0 f1 f2 y0 y1 y2 g0 g1 g2
  have hs := ((Re.refl D0.out).set 1 (.int .u64 ch)).set 2 (.int .u64 cl)
  have hz := (hs.oth (w.heap.size + 1) (by omega)).trans D1.out
  generalize hW : World.setCell _ _ _ = W9
  have hr := re3 hz hW
  obtain ⟨y0, y1, y2, -⟩ := res3 hr.blk
  refine bodyPost_ret (v := .agg #[.bool s, .int .u64 ch, .int .u64 cl]) (by simp [results, Tryz.results95, go_sem, y0, y1, y2]) rfl ⟨rfl, hr.below (hs.below HB2.out (by omega)) (by omega)⟩
end Go.Proofs.YtollmagiifkicaaGreatDoor
