/- The plain law of masks and of the order of addresses: digits of 2^16 against numbers of 64 bits. Masks of the program: span.Length, low, Masked. The order of prefixes in the program: cmp.Compare at uint64, span.Compare, ComparePrefixes, compareRouters. addr.CheckPrefix at a right prefix. route.CheckRouters at right routers. -/
import Derived.Test.YtkbbmlkgaooaiaaGreatDoorWdF
import Derived.Test.YtkbbmlkgaooaiaaGreatDoorRfA
namespace Go.Proofs.YtkbbmlkgaooaiaaGreatDoor
open Go.RowKit Go.Hw

theorem num_dg {n : Int} (h : U64 n) : n = dg n 3 * 281474976710656 + dg n 2 * 4294967296 + dg n 1 * 65536 + dg n 0 := by
  unfold U64 at h
  unfold dg
  simp only [Nat.reduceMul, Int.reducePow, Nat.mul_zero, Int.pow_zero, Int.ediv_one]
  omega
theorem dg_ext {n k : Int} (h : U64 n) (h' : U64 k) (e : ∀ i, i < 4 → dg n i = dg k i) : n = k := by
  have h1 := num_dg h
  have h2 := num_dg h'
  rw [e 0 (by omega), e 1 (by omega), e 2 (by omega), e 3 (by omega)] at h1
  omega
theorem clr_u64 {n : Int} (h : U64 n) (m : Nat) : U64 (clr n m) := by
  unfold U64 clr at *
  have hp : (0 : Int) < 2 ^ m := Int.pow_pos (by decide)
  have h2 := Int.ediv_nonneg h.1 (Int.le_of_lt hp)
  have h3 := Int.ediv_mul_le n (Int.ne_of_gt hp)
  exact ⟨Int.mul_nonneg h2 (Int.le_of_lt hp), by omega⟩
/-- A digit of a number whose last bits are cleared. -/
theorem clr_dg {n : Int} (h : U64 n) (M i : Nat) : clr (dg n i) (min 16 (M - 16 * i)) = dg (clr n M) i := by
  obtain ⟨N, rfl⟩ := Int.eq_ofNat_of_zero_le h.1
  have e1 : dg (N : Int) i = ((N / 2 ^ (16 * i) % 65536 : Nat) : Int) := by unfold dg; simp
  have ec : ∀ (X m : Nat), clr (X : Int) m = ((X / 2 ^ m * 2 ^ m : Nat) : Int) := fun X m => by unfold clr; simp
  have e2 : dg ((N / 2 ^ M * 2 ^ M : Nat) : Int) i = ((N / 2 ^ M * 2 ^ M / 2 ^ (16 * i) % 65536 : Nat) : Int) := by unfold dg; simp
  rw [e1, ec, ec, e2]
  congr 1
  apply Nat.eq_of_testBit_eq
  intro j
  rw [clr_bit, show (65536 : Nat) = 2 ^ 16 from rfl, Nat.testBit_mod_two_pow, Nat.testBit_mod_two_pow, Nat.testBit_div_two_pow, Nat.testBit_div_two_pow, clr_bit]
  by_cases h1 : j < 16
  · by_cases h2 : min 16 (M - 16 * i) ≤ j
    · rw [decide_eq_true h2, decide_eq_true (show M ≤ j + 16 * i by omega)]
      simp
    · rw [decide_eq_false h2, decide_eq_false (show ¬ M ≤ j + 16 * i by omega)]
      simp
  · rw [decide_eq_false h1]
    simp
theorem clr_min {x : Int} {a b : Nat} (h : a = b) : clr x a = clr x b := by rw [h]
/-- The digits of a masked address. -/
theorem clrd_wd {s : Bool} {hi lo : Int} (uh : U64 hi) (ul : U64 lo) {m : Nat} (hm : m ≤ 128) {i : Nat} (hi9 : i < 9) : clrd (wd s hi lo) m i = wd s (clr hi (m - 64)) (clr lo (min 64 m)) i := by
  unfold clrd wd
  by_cases h1 : i < 4
  · rw [if_pos h1, if_pos h1, ← clr_dg ul]
    exact clr_min (by omega)
  · rw [if_neg h1, if_neg h1]
    by_cases h2 : i < 8
    · rw [if_pos h2, if_pos h2, ← clr_dg uh]
      exact clr_min (by omega)
    · rw [if_neg h2, if_neg h2]
      have : min 16 (m - 16 * i) = 0 := by omega
      rw [this]
      unfold clr
      simp
theorem eqN_iff {d e : Nat → Int} : eqN d e = true ↔ ∀ i, i < 9 → d i = e i := by
  unfold eqN
  simp only [Bool.and_eq_true, beq_iff_eq]
  constructor
  · rintro ⟨h0, h1, h2, h3, h4, h5, h6, h7, h8⟩ i hi
    have : i = 0 ∨ i = 1 ∨ i = 2 ∨ i = 3 ∨ i = 4 ∨ i = 5 ∨ i = 6 ∨ i = 7 ∨ i = 8 := by omega
    rcases this with rfl | rfl | rfl | rfl | rfl | rfl | rfl | rfl | rfl <;> assumption
  · intro h
    exact ⟨h 0 (by omega), h 1 (by omega), h 2 (by omega), h 3 (by omega), h 4 (by omega), h 5 (by omega), h 6 (by omega), h 7 (by omega), h 8 (by omega)⟩
theorem wd_ext {s s' : Bool} {hi lo hi' lo' : Int} (uh : U64 hi) (ul : U64 lo) (uh' : U64 hi') (ul' : U64 lo') (h : ∀ i, i < 9 → wd s hi lo i = wd s' hi' lo' i) : s = s' ∧ hi = hi' ∧ lo = lo' := by
  refine ⟨?_, dg_ext uh uh' fun i hi4 => ?_, dg_ext ul ul' fun i hi4 => ?_⟩
  · have := h 8 (by omega)
    unfold wd at this
    simp at this
    cases s <;> cases s' <;> simp at this ⊢
  · have := h (4 + i) (by omega)
    unfold wd at this
    rw [if_neg (by omega), if_pos (by omega), if_neg (by omega), if_pos (by omega), show 4 + i - 4 = i from by omega] at this
    exact this
  · have := h i (by omega)
    unfold wd at this
    rw [if_pos hi4, if_pos hi4] at this
    exact this
/-- The last bits are 0 just if masking changes nothing. -/
theorem mask_iff {s : Bool} {hi lo : Int} (uh : U64 hi) (ul : U64 lo) {m : Nat} (hm : m ≤ 128) : eqN (clrd (wd s hi lo) m) (wd s hi lo) = true ↔ clr hi (m - 64) = hi ∧ clr lo (min 64 m) = lo := by
  rw [eqN_iff]
  constructor
  · intro h
    have := wd_ext (s := s) (s' := s) (clr_u64 uh (m - 64)) (clr_u64 ul (min 64 m)) uh ul fun i hi => by rw [← clrd_wd uh ul hm hi]; exact h i hi
    exact this.2
  · rintro ⟨h1, h2⟩ i hi
    rw [clrd_wd uh ul hm hi, h1, h2]
/-- The order of addresses. -/
def spanC (s : Bool) (h l : Int) (s' : Bool) (h' l' : Int) : Int := if s = s' then orOf [cmpI h h', cmpI l l'] else if s' = true then -1 else 1
theorem sgn_cmp (a b : Int) : sgn (a - b) = cmpI a b := by
  unfold sgn cmpI
  by_cases h1 : a < b
  · rw [if_pos (by omega), if_pos h1]
  · rw [if_neg (by omega), if_neg h1]
    by_cases h2 : b < a
    · rw [if_pos (by omega), if_pos h2]
    · rw [if_neg (by omega), if_neg h2]
theorem cmp_four {n k : Int} (h : U64 n) (h' : U64 k) (r : Int) :
    (if dg n 3 = dg k 3 then if dg n 2 = dg k 2 then if dg n 1 = dg k 1 then if dg n 0 = dg k 0 then r else cmpI (dg n 0) (dg k 0) else cmpI (dg n 1) (dg k 1) else cmpI (dg n 2) (dg k 2) else cmpI (dg n 3) (dg k 3)) = if n = k then r else cmpI n k := by
  have h1 := num_dg h
  have h2 := num_dg h'
  have a0 := dg_bd n 0
  have a1 := dg_bd n 1
  have a2 := dg_bd n 2
  have a3 := dg_bd n 3
  have b0 := dg_bd k 0
  have b1 := dg_bd k 1
  have b2 := dg_bd k 2
  have b3 := dg_bd k 3
  generalize dg n 0 = n0 at *
  generalize dg n 1 = n1 at *
  generalize dg n 2 = n2 at *
  generalize dg n 3 = n3 at *
  generalize dg k 0 = k0 at *
  generalize dg k 1 = k1 at *
  generalize dg k 2 = k2 at *
  generalize dg k 3 = k3 at *
  have hc : ∀ a b : Int, a ≠ b → n ≠ k → ((a < b → n < k) ∧ (b < a → k < n)) → cmpI a b = cmpI n k := by
    intro a b hab hnk hh
    unfold cmpI
    by_cases c1 : a < b
    · rw [if_pos c1, if_pos (hh.1 c1)]
    · rw [if_neg c1, if_pos (show b < a by omega), if_neg (by have := hh.2 (by omega); omega), if_pos (hh.2 (by omega))]
  by_cases e3 : n3 = k3
  · rw [if_pos e3]
    by_cases e2 : n2 = k2
    · rw [if_pos e2]
      by_cases e1 : n1 = k1
      · rw [if_pos e1]
        by_cases e0 : n0 = k0
        · rw [if_pos e0, if_pos (by omega)]
        · rw [if_neg e0, if_neg (by omega)]
          exact hc _ _ e0 (by omega) ⟨fun _ => by omega, fun _ => by omega⟩
      · rw [if_neg e1, if_neg (by omega)]
        exact hc _ _ e1 (by omega) ⟨fun _ => by omega, fun _ => by omega⟩
    · rw [if_neg e2, if_neg (by omega)]
      exact hc _ _ e2 (by omega) ⟨fun _ => by omega, fun _ => by omega⟩
  · rw [if_neg e3, if_neg (by omega)]
    exact hc _ _ e3 (by omega) ⟨fun _ => by omega, fun _ => by omega⟩
theorem cmpI_same (a : Int) : cmpI a a = 0 := by unfold cmpI; simp
theorem cmpI_ne {a b : Int} (h : a ≠ b) : cmpI a b ≠ 0 := by
  unfold cmpI
  by_cases h1 : a < b
  · rw [if_pos h1]; decide
  · rw [if_neg h1, if_pos (by omega)]; decide
/-- The order by digits is the order by numbers. -/
theorem cmp_span {s s' : Bool} {h l h' l' : Int} (uh : U64 h) (ul : U64 l) (uh' : U64 h') (ul' : U64 l') : cmpN (wd s h l) (wd s' h' l') 9 = spanC s h l s' h' l' := by
  have e8 : wd s h l 8 = if s then 1 else 0 := rfl
  have e8' : wd s' h' l' 8 = if s' then 1 else 0 := rfl
  by_cases hs : s = s'
  · subst hs
    have hhi := cmp_four uh uh' (cmpN (wd s h l) (wd s h' l') 4)
    have hlo := cmp_four ul ul' 0
    unfold spanC
    rw [if_pos rfl]
    have h9 : cmpN (wd s h l) (wd s h' l') 9 = cmpN (wd s h l) (wd s h' l') 8 := by
      show (if wd s h l 8 = wd s h' l' 8 then _ else _) = _
      rw [if_pos (by rw [e8, e8'])]
    have h84 : cmpN (wd s h l) (wd s h' l') 8 = if h = h' then cmpN (wd s h l) (wd s h' l') 4 else cmpI h h' := by
      rw [← hhi]
      simp only [cmpN, sgn_cmp]
      rfl
    have h40 : cmpN (wd s h l) (wd s h' l') 4 = if l = l' then 0 else cmpI l l' := by
      rw [← hlo]
      simp only [cmpN, sgn_cmp]
      rfl
    rw [h9, h84, h40]
    unfold orOf orOf orOf
    by_cases c1 : h = h'
    · subst c1
      rw [if_pos rfl, if_pos (cmpI_same h)]
      by_cases c2 : l = l'
      · subst c2
        rw [if_pos rfl, if_pos (cmpI_same l)]
      · rw [if_neg c2, if_neg (cmpI_ne c2)]
    · rw [if_neg c1, if_neg (cmpI_ne c1)]
  · unfold spanC
    rw [if_neg hs]
    show (if wd s h l 8 = wd s' h' l' 8 then _ else sgn (wd s h l 8 - wd s' h' l' 8)) = _
    rw [e8, e8']
    cases s <;> cases s' <;> simp at hs ⊢ <;> rfl
end Go.Proofs.YtkbbmlkgaooaiaaGreatDoor

namespace Go.Proofs.YtkbbmlkgaooaiaaGreatDoor
open Go.RowKit Go.Hw

theorem spanLength_any (six : Bool) (hi lo : Int) (w : World) : Calls Tryz.prog 107 #[.agg #[.bool six, .int .u64 hi, .int .u64 lo]] w fun e w' => e = .returned (.int .i64 (lenA six)) ∧ Below w.heap.size w w' := by
  have HB := Lib.hid ((Below.refl w.heap.size w).alloc (Nat.le_refl _) (.cells #[.bool six, .int .u64 hi, .int .u64 lo] 42))
  cases six
  · go_enter Tryz.func107, Tryz.ntmps107
    go_wp2_with fail
    go_ret
    exact ⟨rfl, HB.out⟩
  · go_enter Tryz.func107, Tryz.ntmps107
    go_wp2_with fail
    go_ret
    exact ⟨rfl, HB.out⟩
/-- So many bits at the end. -/
def lowM (k : Nat) : Int := 2 ^ k - 1
theorem pow_le64 {k : Nat} (h : k ≤ 63) : (2 : Int) ^ k ≤ 9223372036854775808 ∧ 1 ≤ (2 : Int) ^ k := by
  have h1 : (2 : Nat) ^ k ≤ 2 ^ 63 := Nat.pow_le_pow_right (by omega) h
  have h2 : (2 : Nat) ^ 63 = 9223372036854775808 := by decide
  have h3 : 1 ≤ (2 : Nat) ^ k := Nat.one_le_two_pow
  have e : (2 : Int) ^ k = ((2 ^ k : Nat) : Int) := by simp
  rw [e]
  generalize (2 : Nat) ^ k = P at *
  omega
set_option maxRecDepth 100000 in
theorem low_any (m : Nat) (w : World) (hm : m ≤ 128) : Calls Tryz.prog 126 #[.int .i64 m] w fun e w' => e = .returned (.tuple #[.int .u64 (lowM (m - 64)), .int .u64 (lowM (min 64 m))]) ∧ Below w.heap.size w w' := by
  by_cases h1 : 128 ≤ m
  · have : m = 128 := by omega
    subst this
    go_enter Tryz.func126, Tryz.ntmps126
    go_wp2_with fail
    go_ret2
    exact ⟨rfl, Below.refl _ _⟩
  by_cases h2 : 64 < m
  · obtain ⟨k, rfl⟩ : ∃ k, m = 64 + k := ⟨m - 64, by omega⟩
    obtain ⟨p1, p2⟩ := pow_le64 (k := k) (by omega)
    have e1 : ((64 + k : Nat) : Int) - 64 = (k : Int) := by omega
    have e2 : IntKind.u64.wrap ((2 : Int) ^ k) = 2 ^ k := IntWalk.u64_in _ (by omega)
    have e3 : IntKind.u64.wrap ((2 : Int) ^ k - 1) = 2 ^ k - 1 := IntWalk.u64_in _ (by omega)
    have e4 : min 64 (64 + k) = 64 := by omega
    have e5 : 64 + k - 64 = k := by omega
    rw [e4, e5]
    have E1 := Lib.hid e1
    clear e4 e5
    go_enter Tryz.func126, Tryz.ntmps126
    go_wp2_with fail
    go_ret2
    exact ⟨rfl, Below.refl _ _⟩
  by_cases h3 : m = 64
  · subst h3
    go_enter Tryz.func126, Tryz.ntmps126
    go_wp2_with fail
    go_ret2
    exact ⟨rfl, Below.refl _ _⟩
  · obtain ⟨p1, p2⟩ := pow_le64 (k := m) (by omega)
    have e2 : IntKind.u64.wrap ((2 : Int) ^ m) = 2 ^ m := IntWalk.u64_in _ (by omega)
    have e3 : IntKind.u64.wrap ((2 : Int) ^ m - 1) = 2 ^ m - 1 := IntWalk.u64_in _ (by omega)
    have e4 : min 64 m = m := by omega
    have e5 : m - 64 = 0 := by omega
    have e6 : ((m : Int) == 64) = false := by rw [beq_eq_false_iff_ne]; omega
    rw [e4, e5]
    clear e4 e5 h3
    go_enter Tryz.func126, Tryz.ntmps126
    go_wp2_with fail
    go_quiet (fail)
    go_wp2_with fail
    go_ret2
    exact ⟨rfl, ⟨rfl, rfl, rfl, Nat.le_refl _, fun _ _ => rfl⟩⟩
theorem andn64 {n : Int} (h : U64 n) {k : Nat} (hk : k ≤ 64) : bits .andNot .u64 n (lowM k) = clr n k := by
  obtain ⟨N, rfl⟩ := Int.eq_ofNat_of_zero_le h.1
  have hN : N < 18446744073709551616 := by have := h.2; omega
  have h1 : (2 : Nat) ^ k ≤ 2 ^ 64 := Nat.pow_le_pow_right (by omega) hk
  have h2 : (2 : Nat) ^ 64 = 18446744073709551616 := by decide
  have h3 : 1 ≤ (2 : Nat) ^ k := Nat.one_le_two_pow
  have e : lowM k = ((2 ^ k - 1 : Nat) : Int) := by
    unfold lowM
    have e' : (2 : Int) ^ k = ((2 ^ k : Nat) : Int) := by simp
    rw [e']
    generalize (2 : Nat) ^ k = P at *
    omega
  rw [e, u64_andNot_nat N _ hN (by omega)]
  have e2 : 18446744073709551615 - (2 ^ k - 1) = 2 ^ 64 - 2 ^ k := by omega
  rw [e2, nat_midmask 64 k N hk, Nat.mod_eq_of_lt (by omega)]
  unfold clr
  simp
set_option maxRecDepth 100000 in
set_option maxHeartbeats 1000000 in
theorem masked_any (s : Bool) (h l b : Int) (w : World) (uh : U64 h) (ul : U64 l) (m : Nat) (hm : lenA s - b = m) (hm2 : m ≤ 128) :
    Calls Tryz.prog 108 #[.agg #[.bool s, .int .u64 h, .int .u64 l], .int .i64 b] w fun e w' => e = .returned (.agg #[.bool s, .int .u64 (clr h (m - 64)), .int .u64 (clr l (min 64 m))]) ∧ Below w.heap.size w w' := by
  have HM := Lib.hid hm
  have hb : 0 ≤ lenA s ∧ lenA s ≤ 128 := by unfold lenA; split <;> omega
  obtain ⟨hb0, hb1⟩ := hb
  have hbb : -128 ≤ b ∧ b ≤ 128 := by omega
  clear hm
  have b0 : ((w.alloc (addrBox s h l)).alloc (addrBox false 0 0)).heap[w.heap.size]? = some (addrBox s h l) := (heap_alloc_old _ _ (by simp)).trans (heap_alloc_new w _)
  have b1 : ((w.alloc (addrBox s h l)).alloc (addrBox false 0 0)).heap[w.heap.size + 1]? = some (addrBox false 0 0) := by
    have := heap_alloc_new (w.alloc (addrBox s h l)) (addrBox false 0 0)
    simp only [Re_size] at this
    exact this
  have HB := Lib.hid (((Below.refl w.heap.size w).alloc (Nat.le_refl _) (addrBox s h l)).alloc (by simp) (addrBox false 0 0))
  go_enter Tryz.func108, Tryz.ntmps108
  go_wp2_with fail
  unfold addrBox at b0 b1
  generalize hW : World.alloc _ _ = W at b0 b1 ⊢
  have HBW : Hid (Below w.heap.size w W) := Lib.hid (by rw [← hW]; exact HB.out)
  clear hW HB
  refine (spanLength_any s h l W).mono ?_
  rintro e W1 ⟨rfl, hb1'⟩
  have hsub : lenA s - b = (m : Int) := HM.out
  have HSUB := Lib.hid hsub
  have c0 := (hb1'.block _ (lt_of_block b0)).trans b0
  have c1 := (hb1'.block _ (lt_of_block b1)).trans b1
  have HB1 := Lib.hid (HBW.out.trans (hb1'.mono HBW.out.size))
  clear hsub b0 b1 hb1' HBW
  go_wp2_with fail
  rw [HSUB.out]
  refine (low_any m W1 hm2).mono ?_
  rintro e W2 ⟨rfl, hb2'⟩
  have d0 := (hb2'.block _ (lt_of_block c0)).trans c0
  have d1 := (hb2'.block _ (lt_of_block c1)).trans c1
  have HB2 := Lib.hid (HB1.out.trans (hb2'.mono HB1.out.size))
  have D0 := Lib.hid d0
  have D1 := Lib.hid d1
  obtain ⟨x0, x1, x2, f0, f1, f2⟩ := res3 d0
  obtain ⟨y0, y1, y2, g0, g1, g2⟩ := res3 d1
  have v1 := andn64 uh (k := m - 64) (by omega)
  have v2 := andn64 ul (k := min 64 m) (by omega)
  have V1 := Lib.hid v1
  have V2 := Lib.hid v2
  clear c0 c1 d0 d1 hb2' HB1 v1 v2
  go_wp2_with fail
  rw [V1.out, V2.out]
  generalize clr h (m - 64) = ch
  generalize clr l (min 64 m) = cl
  clear x0 x1 x2 f0 f1 f2 y0 y1 y2 g0 g1 g2
  have hs := ((Re.refl D0.out).set 1 (.int .u64 ch)).set 2 (.int .u64 cl)
  have hz := (hs.oth (w.heap.size + 1) (by omega)).trans D1.out
  generalize hW : World.setCell _ _ _ = W9
  have hr := re3 hz hW
  obtain ⟨y0, y1, y2, -⟩ := res3 hr.blk
  refine bodyPost_ret (v := .agg #[.bool s, .int .u64 ch, .int .u64 cl]) (by simp [results, Tryz.results108, go_sem, y0, y1, y2]) rfl ⟨rfl, hr.below (hs.below HB2.out (by omega)) (by omega)⟩
end Go.Proofs.YtkbbmlkgaooaiaaGreatDoor

namespace Go.Proofs.YtkbbmlkgaooaiaaGreatDoor
open Go.RowKit Go.Hw Go.Shelf

theorem nan_u64 (a : Int) (w : World) : Calls Tryz.prog 149 #[.int .u64 a] w fun e w' => e = .returned (.bool false) ∧ w = w' := by
  have h : (a != a) = false := by simp
  go_enter Tryz.func149, Tryz.ntmps149
  go_wp2_with fail
  go_ret
  exact ⟨ret_bool (by simp), rfl⟩
theorem cmpU_any (a b : Int) (w : World) : Calls Tryz.prog 141 #[.int .u64 a, .int .u64 b] w fun e w' => e = .returned (.int .i64 (cmpI a b)) ∧ w = w' := by
  by_cases h1 : a < b
  · have HF : Hid (cmpI a b = -1) := Lib.hid (by unfold cmpI; rw [if_pos h1])
    go_enter Tryz.func141, Tryz.ntmps141
    go_wp2_with (go_at_call 149; refine (nan_u64 _ _).mono ?_; rintro e w' ⟨rfl, rfl⟩)
    go_ret
    exact ⟨ret_eq HF.out.symm, rfl⟩
  · by_cases h2 : b < a
    · have HF : Hid (cmpI a b = 1) := Lib.hid (by unfold cmpI; rw [if_neg h1, if_pos h2])
      go_enter Tryz.func141, Tryz.ntmps141
      go_wp2_with (go_at_call 149; refine (nan_u64 _ _).mono ?_; rintro e w' ⟨rfl, rfl⟩)
      go_ret
      exact ⟨ret_eq HF.out.symm, rfl⟩
    · have HF : Hid (cmpI a b = 0) := Lib.hid (by unfold cmpI; rw [if_neg h1, if_neg h2])
      go_enter Tryz.func141, Tryz.ntmps141
      go_wp2_with (go_at_call 149; refine (nan_u64 _ _).mono ?_; rintro e w' ⟨rfl, rfl⟩)
      go_ret
      exact ⟨ret_eq HF.out.symm, rfl⟩

set_option maxRecDepth 100000 in
set_option maxHeartbeats 1000000 in
theorem spanCompare_any (s : Bool) (h l : Int) (s' : Bool) (h' l' : Int) (w : World) :
    Calls Tryz.prog 127 #[.agg #[.bool s, .int .u64 h, .int .u64 l], .agg #[.bool s', .int .u64 h', .int .u64 l']] w fun e w' => e = .returned (.int .i64 (spanC s h l s' h' l')) ∧ Below w.heap.size w w' := by
  have b0 : ((w.alloc (addrBox s h l)).alloc (addrBox s' h' l')).heap[w.heap.size]? = some (addrBox s h l) := (heap_alloc_old _ _ (by simp)).trans (heap_alloc_new w _)
  have b1 : ((w.alloc (addrBox s h l)).alloc (addrBox s' h' l')).heap[w.heap.size + 1]? = some (addrBox s' h' l') := by
    have := heap_alloc_new (w.alloc (addrBox s h l)) (addrBox s' h' l')
    simp only [Re_size] at this
    exact this
  obtain ⟨x0, x1, x2, -⟩ := res3 b0
  obtain ⟨x3, x4, x5, -⟩ := res3 b1
  have HB := Lib.hid (((Below.refl w.heap.size w).alloc (Nat.le_refl _) (addrBox s h l)).alloc (by simp) (addrBox s' h' l'))
  have hsz : w.heap.size + 2 ≤ ((w.alloc (addrBox s h l)).alloc (addrBox s' h' l')).heap.size := by simp
  unfold addrBox at x0 x1 x2 x3 x4 x5 hsz
  clear b0 b1
  by_cases hs : s = s'
  · subst hs
    have HF : Hid (spanC s h l s h' l' = orOf [cmpI h h', cmpI l l']) := Lib.hid (by unfold spanC; rw [if_pos rfl])
    have e1 : (s != s) = false := by simp
    go_enter Tryz.func127, Tryz.ntmps127
    go_wp2_with fail
    generalize hW : World.alloc _ _ = W at x0 x1 x2 x3 x4 x5 hsz ⊢
    have HBW : Hid (Below w.heap.size w W) := Lib.hid (by rw [← hW]; exact HB.out)
    clear hW HB
    have hl0 : w.heap.size < W.heap.size := by omega
    have hl1 : w.heap.size + 1 < W.heap.size := by omega
    go_region_held3 (fun w' => w'.cell? ⟨w.heap.size, 0, none⟩ = some (.bool s) ∧ w'.cell? ⟨w.heap.size, 1, none⟩ = some (.int .u64 h) ∧ w'.cell? ⟨w.heap.size, 2, none⟩ = some (.int .u64 l) ∧ w'.cell? ⟨w.heap.size + 1, 0, none⟩ = some (.bool s) ∧ w'.cell? ⟨w.heap.size + 1, 1, none⟩ = some (.int .u64 h') ∧ w'.cell? ⟨w.heap.size + 1, 2, none⟩ = some (.int .u64 l'))
      (first | exact ⟨x0, x1, x2, x3, x4, x5⟩ | ((repeat' apply And.intro) <;> (first | (go_simp; done) | with_reducible assumption)))
      (first
        | (go_at_call 141; refine (cmpU_any _ _ _).mono ?_; rintro e W2 ⟨rfl, rfl⟩)
        | (go_at_call 29; refine (or_any W.heap.size [cmpI h h', cmpI l l'] _ (by exact heap_alloc_new W _) 2 2 rfl (by simp)).mono ?_; rintro e W2 ⟨rfl, rfl⟩))
    go_wp2_with fail
    go_ret
    exact ⟨ret_eq HF.out.symm, (HBW.out.alloc HBW.out.size _).drew⟩
  · cases s <;> cases s'
    · exact absurd rfl hs
    · have HF : Hid (spanC false h l true h' l' = -1) := Lib.hid rfl
      clear hs
      go_enter Tryz.func127, Tryz.ntmps127
      go_wp2_with fail
      go_ret
      exact ⟨ret_eq HF.out.symm, HB.out⟩
    · have HF : Hid (spanC true h l false h' l' = 1) := Lib.hid rfl
      clear hs
      go_enter Tryz.func127, Tryz.ntmps127
      go_wp2_with fail
      go_ret
      exact ⟨ret_eq HF.out.symm, HB.out⟩
    · exact absurd rfl hs

set_option maxRecDepth 100000 in
set_option maxHeartbeats 1000000 in
theorem comparePrefixes_any (s : Bool) (h l b : Int) (s' : Bool) (h' l' b' : Int) (w : World) :
    Calls Tryz.prog 109 #[.agg #[.bool s, .int .u64 h, .int .u64 l, .int .i64 b], .agg #[.bool s', .int .u64 h', .int .u64 l', .int .i64 b']] w fun e w' => e = .returned (.int .i64 (orOf [spanC s h l s' h' l', cmpI b b'])) ∧ Below w.heap.size w w' := by
  have b0 : ((w.alloc (pfBox s h l b)).alloc (pfBox s' h' l' b')).heap[w.heap.size]? = some (pfBox s h l b) := (heap_alloc_old _ _ (by simp)).trans (heap_alloc_new w _)
  have b1 : ((w.alloc (pfBox s h l b)).alloc (pfBox s' h' l' b')).heap[w.heap.size + 1]? = some (pfBox s' h' l' b') := by
    have := heap_alloc_new (w.alloc (pfBox s h l b)) (pfBox s' h' l' b')
    simp only [Re_size] at this
    exact this
  obtain ⟨⟨x0, x1, x2, x3⟩, -⟩ := res4 b0
  obtain ⟨⟨x4, x5, x6, x7⟩, -⟩ := res4 b1
  have HB := Lib.hid (((Below.refl w.heap.size w).alloc (Nat.le_refl _) (pfBox s h l b)).alloc (by simp) (pfBox s' h' l' b'))
  have hsz : w.heap.size + 2 ≤ ((w.alloc (pfBox s h l b)).alloc (pfBox s' h' l' b')).heap.size := by simp
  unfold pfBox at x0 x1 x2 x3 x4 x5 x6 x7 hsz
  clear b0 b1
  go_enter Tryz.func109, Tryz.ntmps109
  go_wp2_with fail
  generalize hW : World.alloc _ _ = W at x0 x1 x2 x3 x4 x5 x6 x7 hsz ⊢
  have HBW : Hid (Below w.heap.size w W) := Lib.hid (by rw [← hW]; exact HB.out)
  clear hW HB
  have hl0 : w.heap.size < W.heap.size := by omega
  have hl1 : w.heap.size + 1 < W.heap.size := by omega
  go_region_held3 (fun w' => w'.cell? ⟨w.heap.size, 0, none⟩ = some (.bool s) ∧ w'.cell? ⟨w.heap.size, 1, none⟩ = some (.int .u64 h) ∧ w'.cell? ⟨w.heap.size, 2, none⟩ = some (.int .u64 l) ∧ w'.cell? ⟨w.heap.size, 3, none⟩ = some (.int .i64 b) ∧ w'.cell? ⟨w.heap.size + 1, 0, none⟩ = some (.bool s') ∧ w'.cell? ⟨w.heap.size + 1, 1, none⟩ = some (.int .u64 h') ∧ w'.cell? ⟨w.heap.size + 1, 2, none⟩ = some (.int .u64 l') ∧ w'.cell? ⟨w.heap.size + 1, 3, none⟩ = some (.int .i64 b'))
    (first | exact ⟨x0, x1, x2, x3, x4, x5, x6, x7⟩ | ((repeat' apply And.intro) <;> (first | (go_simp; done) | with_reducible assumption)))
    (first
      | (go_at_call 127; refine (spanCompare_any _ _ _ _ _ _ _).mono ?_; rintro e W1 ⟨rfl, hb1⟩; have x0 : W1.cell? ⟨w.heap.size, 0, none⟩ = some (.bool s) := (hb1.cell (p := ⟨w.heap.size, 0, none⟩) (by first | (simp; done) | (simp; omega) | omega)).trans (by first | assumption | (go_simp; done)); have x1 : W1.cell? ⟨w.heap.size, 1, none⟩ = some (.int .u64 h) := (hb1.cell (p := ⟨w.heap.size, 1, none⟩) (by first | (simp; done) | (simp; omega) | omega)).trans (by first | assumption | (go_simp; done)); have x2 : W1.cell? ⟨w.heap.size, 2, none⟩ = some (.int .u64 l) := (hb1.cell (p := ⟨w.heap.size, 2, none⟩) (by first | (simp; done) | (simp; omega) | omega)).trans (by first | assumption | (go_simp; done)); have x3 : W1.cell? ⟨w.heap.size, 3, none⟩ = some (.int .i64 b) := (hb1.cell (p := ⟨w.heap.size, 3, none⟩) (by first | (simp; done) | (simp; omega) | omega)).trans (by first | assumption | (go_simp; done)); have x4 : W1.cell? ⟨w.heap.size + 1, 0, none⟩ = some (.bool s') := (hb1.cell (p := ⟨w.heap.size + 1, 0, none⟩) (by first | (simp; done) | (simp; omega) | omega)).trans (by first | assumption | (go_simp; done)); have x5 : W1.cell? ⟨w.heap.size + 1, 1, none⟩ = some (.int .u64 h') := (hb1.cell (p := ⟨w.heap.size + 1, 1, none⟩) (by first | (simp; done) | (simp; omega) | omega)).trans (by first | assumption | (go_simp; done)); have x6 : W1.cell? ⟨w.heap.size + 1, 2, none⟩ = some (.int .u64 l') := (hb1.cell (p := ⟨w.heap.size + 1, 2, none⟩) (by first | (simp; done) | (simp; omega) | omega)).trans (by first | assumption | (go_simp; done)); have x7 : W1.cell? ⟨w.heap.size + 1, 3, none⟩ = some (.int .i64 b') := (hb1.cell (p := ⟨w.heap.size + 1, 3, none⟩) (by first | (simp; done) | (simp; omega) | omega)).trans (by first | assumption | (go_simp; done)); have hsz : w.heap.size + 2 ≤ W1.heap.size := (by have := hb1.size; (try simp at this); omega); have hl0 : w.heap.size < W1.heap.size := (by omega); have hl1 : w.heap.size + 1 < W1.heap.size := (by omega); have HBW : Hid (Below w.heap.size w W1) := (by first | exact Lib.hid (HBW.out.trans (hb1.mono (by omega))) | exact Lib.hid (HBW.out.drew.trans (hb1.mono (show w.heap.size ≤ W.heap.size by omega)))))
      | (go_at_call 33; refine (cmpI_any _ _ _).mono ?_; rintro e W2 ⟨rfl, rfl⟩)
      | (go_at_call 29; refine (or_any W1.heap.size [spanC s h l s' h' l', cmpI b b'] _ (by exact heap_alloc_new W1 _) 2 2 rfl (by simp)).mono ?_; rintro e W2 ⟨rfl, rfl⟩))
  go_wp2_with fail
  go_ret
  exact ⟨rfl, HBW.out.alloc HBW.out.size _⟩

def rtBox (s : Bool) (h l b : Int) (n : ByteArray) (k : Int) : Obj := .cells #[.bool s, .int .u64 h, .int .u64 l, .int .i64 b, .string n, .int .i64 k] 55 (0, 0)
set_option maxRecDepth 100000 in
set_option maxHeartbeats 1000000 in
theorem compareRouters_any (s : Bool) (h l b : Int) (n : ByteArray) (k : Int) (s' : Bool) (h' l' b' : Int) (n' : ByteArray) (k' : Int) (w : World) :
    Calls Tryz.prog 84 #[.agg #[.bool s, .int .u64 h, .int .u64 l, .int .i64 b, .string n, .int .i64 k], .agg #[.bool s', .int .u64 h', .int .u64 l', .int .i64 b', .string n', .int .i64 k']] w fun e w' =>
      e = .returned (.int .i64 (orOf [orOf [spanC s h l s' h' l', cmpI b b'], Lib.compareBytes n.data.toList n'.data.toList])) ∧ Below w.heap.size w w' := by
  have b0 : ((w.alloc (rtBox s h l b n k)).alloc (rtBox s' h' l' b' n' k')).heap[w.heap.size]? = some (rtBox s h l b n k) := (heap_alloc_old _ _ (by simp)).trans (heap_alloc_new w _)
  have b1 : ((w.alloc (rtBox s h l b n k)).alloc (rtBox s' h' l' b' n' k')).heap[w.heap.size + 1]? = some (rtBox s' h' l' b' n' k') := by
    have := heap_alloc_new (w.alloc (rtBox s h l b n k)) (rtBox s' h' l' b' n' k')
    simp only [Re_size] at this
    exact this
  obtain ⟨⟨x0, x1, x2, x3, x4, -⟩, -⟩ := res6 b0
  obtain ⟨⟨x5, x6, x7, x8, x9, -⟩, -⟩ := res6 b1
  have HB := Lib.hid (((Below.refl w.heap.size w).alloc (Nat.le_refl _) (rtBox s h l b n k)).alloc (by simp) (rtBox s' h' l' b' n' k'))
  have hsz : w.heap.size + 2 ≤ ((w.alloc (rtBox s h l b n k)).alloc (rtBox s' h' l' b' n' k')).heap.size := by simp
  unfold rtBox at x0 x1 x2 x3 x4 x5 x6 x7 x8 x9 hsz
  clear b0 b1
  go_enter Tryz.func84, Tryz.ntmps84
  go_wp2_with fail
  generalize hW : World.alloc _ _ = W at x0 x1 x2 x3 x4 x5 x6 x7 x8 x9 hsz ⊢
  have HBW : Hid (Below w.heap.size w W) := Lib.hid (by rw [← hW]; exact HB.out)
  clear hW HB
  have hl0 : w.heap.size < W.heap.size := by omega
  have hl1 : w.heap.size + 1 < W.heap.size := by omega
  go_region_held3 (fun w' => w'.cell? ⟨w.heap.size, 0, none⟩ = some (.bool s) ∧ w'.cell? ⟨w.heap.size, 1, none⟩ = some (.int .u64 h) ∧ w'.cell? ⟨w.heap.size, 2, none⟩ = some (.int .u64 l) ∧ w'.cell? ⟨w.heap.size, 3, none⟩ = some (.int .i64 b) ∧ w'.cell? ⟨w.heap.size, 4, none⟩ = some (.string n) ∧ w'.cell? ⟨w.heap.size + 1, 0, none⟩ = some (.bool s') ∧ w'.cell? ⟨w.heap.size + 1, 1, none⟩ = some (.int .u64 h') ∧ w'.cell? ⟨w.heap.size + 1, 2, none⟩ = some (.int .u64 l') ∧ w'.cell? ⟨w.heap.size + 1, 3, none⟩ = some (.int .i64 b') ∧ w'.cell? ⟨w.heap.size + 1, 4, none⟩ = some (.string n'))
    (first | exact ⟨x0, x1, x2, x3, x4, x5, x6, x7, x8, x9⟩ | ((repeat' apply And.intro) <;> (first | (go_simp; done) | with_reducible assumption)))
    (first
      | (go_at_call 109; refine (comparePrefixes_any _ _ _ _ _ _ _ _ _).mono ?_; rintro e W1 ⟨rfl, hb1⟩; have x0 : W1.cell? ⟨w.heap.size, 0, none⟩ = some (.bool s) := (hb1.cell (p := ⟨w.heap.size, 0, none⟩) (by first | (simp; done) | (simp; omega) | omega)).trans (by first | assumption | (go_simp; done)); have x1 : W1.cell? ⟨w.heap.size, 1, none⟩ = some (.int .u64 h) := (hb1.cell (p := ⟨w.heap.size, 1, none⟩) (by first | (simp; done) | (simp; omega) | omega)).trans (by first | assumption | (go_simp; done)); have x2 : W1.cell? ⟨w.heap.size, 2, none⟩ = some (.int .u64 l) := (hb1.cell (p := ⟨w.heap.size, 2, none⟩) (by first | (simp; done) | (simp; omega) | omega)).trans (by first | assumption | (go_simp; done)); have x3 : W1.cell? ⟨w.heap.size, 3, none⟩ = some (.int .i64 b) := (hb1.cell (p := ⟨w.heap.size, 3, none⟩) (by first | (simp; done) | (simp; omega) | omega)).trans (by first | assumption | (go_simp; done)); have x4 : W1.cell? ⟨w.heap.size, 4, none⟩ = some (.string n) := (hb1.cell (p := ⟨w.heap.size, 4, none⟩) (by first | (simp; done) | (simp; omega) | omega)).trans (by first | assumption | (go_simp; done)); have x5 : W1.cell? ⟨w.heap.size + 1, 0, none⟩ = some (.bool s') := (hb1.cell (p := ⟨w.heap.size + 1, 0, none⟩) (by first | (simp; done) | (simp; omega) | omega)).trans (by first | assumption | (go_simp; done)); have x6 : W1.cell? ⟨w.heap.size + 1, 1, none⟩ = some (.int .u64 h') := (hb1.cell (p := ⟨w.heap.size + 1, 1, none⟩) (by first | (simp; done) | (simp; omega) | omega)).trans (by first | assumption | (go_simp; done)); have x7 : W1.cell? ⟨w.heap.size + 1, 2, none⟩ = some (.int .u64 l') := (hb1.cell (p := ⟨w.heap.size + 1, 2, none⟩) (by first | (simp; done) | (simp; omega) | omega)).trans (by first | assumption | (go_simp; done)); have x8 : W1.cell? ⟨w.heap.size + 1, 3, none⟩ = some (.int .i64 b') := (hb1.cell (p := ⟨w.heap.size + 1, 3, none⟩) (by first | (simp; done) | (simp; omega) | omega)).trans (by first | assumption | (go_simp; done)); have x9 : W1.cell? ⟨w.heap.size + 1, 4, none⟩ = some (.string n') := (hb1.cell (p := ⟨w.heap.size + 1, 4, none⟩) (by first | (simp; done) | (simp; omega) | omega)).trans (by first | assumption | (go_simp; done)); have hsz : w.heap.size + 2 ≤ W1.heap.size := (by have := hb1.size; (try simp at this); omega); have hl0 : w.heap.size < W1.heap.size := (by omega); have hl1 : w.heap.size + 1 < W1.heap.size := (by omega); have HBW : Hid (Below w.heap.size w W1) := (by first | exact Lib.hid (HBW.out.trans (hb1.mono (by omega))) | exact Lib.hid (HBW.out.drew.trans (hb1.mono (show w.heap.size ≤ W.heap.size by omega)))))
      | (go_at_call 31; refine (cmp_any _ _ _).mono ?_; rintro e W2 ⟨rfl, rfl⟩)
      | (go_at_call 29; refine (or_any W1.heap.size [orOf [spanC s h l s' h' l', cmpI b b'], Lib.compareBytes n.data.toList n'.data.toList] _ (by exact heap_alloc_new W1 _) 2 2 rfl (by simp)).mono ?_; rintro e W2 ⟨rfl, rfl⟩))
  go_wp2_with fail
  go_ret
  exact ⟨rfl, HBW.out.alloc HBW.out.size _⟩
end Go.Proofs.YtkbbmlkgaooaiaaGreatDoor

namespace Go.Proofs.YtkbbmlkgaooaiaaGreatDoor
open Go.RowKit Go.Hw Go.Shelf

theorem pf_parts {s : Bool} {h l b : Int} (uh : U64 h) (ul : U64 l) (hc : pfCode s h l b = 0) : addrCode s h l = 0 ∧ (0 ≤ b ∧ b ≤ lenA s) ∧ ∃ m : Nat, lenA s - b = m ∧ m ≤ 128 ∧ clr h (m - 64) = h ∧ clr l (min 64 m) = l := by
  have hl : lenA s ≤ 128 := by unfold lenA; split <;> omega
  unfold pfCode at hc
  split at hc
  · rename_i h1; exact absurd hc h1
  · rename_i h1
    split at hc
    · cases hc
    · rename_i h2
      split at hc
      · cases hc
      · rename_i h3
        have h2' : 0 ≤ b ∧ b ≤ lenA s := Decidable.not_not.1 h2
        obtain ⟨m, hm⟩ := Int.eq_ofNat_of_zero_le (show 0 ≤ lenA s - b by omega)
        have hmm : (lenA s - b).toNat = m := by omega
        rw [hmm] at h3
        have h4 : eqN (clrd (wd s h l) m) (wd s h l) = true := by
          cases e : eqN (clrd (wd s h l) m) (wd s h l)
          · exact absurd e h3
          · rfl
        have := (mask_iff (s := s) uh ul (m := m) (by omega)).1 h4
        exact ⟨Decidable.not_not.1 h1, h2', m, hm, by omega, this.1, this.2⟩

set_option maxRecDepth 100000 in
set_option maxHeartbeats 1000000 in
theorem checkPrefix_any (s : Bool) (h l b : Int) (w : World) (uh : U64 h) (ul : U64 l) (hc : pfCode s h l b = 0) :
    Calls Tryz.prog 83 #[.agg #[.bool s, .int .u64 h, .int .u64 l, .int .i64 b]] w fun e w' => e = .returned (.int .i64 0) ∧ Below w.heap.size w w' := by
  obtain ⟨ha, hr, m, hm, hm2, hc1, hc2⟩ := pf_parts uh ul hc
  have HA := Lib.hid ha
  have HM := Lib.hid hm
  have HC1 := Lib.hid hc1
  have HC2 := Lib.hid hc2
  have hin : (decide (b < 0) || decide (lenA s < b)) = false := by simp; omega
  have HIN := Lib.hid hin
  have b0 : (w.alloc (pfBox s h l b)).heap[w.heap.size]? = some (pfBox s h l b) := heap_alloc_new w _
  obtain ⟨⟨x0, x1, x2, x3⟩, -⟩ := res4 b0
  have HB := Lib.hid ((Below.refl w.heap.size w).alloc (Nat.le_refl _) (pfBox s h l b))
  have hsz : w.heap.size + 1 ≤ (w.alloc (pfBox s h l b)).heap.size := by simp
  unfold pfBox at x0 x1 x2 x3 hsz
  have hu := uh.1
  have hq := run_eq_addr 9998 s s h h l l
  have hgd := guard_addr
  rw [show (s == s && (h == h && l == l)) = true by simp] at hq
  clear b0 hc ha hm hc1 hc2 hin
  go_enter Tryz.func83, Tryz.ntmps83
  go_wp2_with fail
  generalize hW : World.alloc _ _ = W at x0 x1 x2 x3 hsz ⊢
  have HBW : Hid (Below w.heap.size w W) := Lib.hid (by rw [← hW]; exact HB.out)
  clear hW HB
  refine (checkAddr_any s h l _ hu).mono ?_
  rintro e W1 ⟨rfl, hb1⟩
  rw [HA.out]
  have x0 : W1.cell? ⟨w.heap.size, 0, none⟩ = some (.bool s) := (hb1.cell (p := ⟨w.heap.size, 0, none⟩) (by first | (simp; done) | (simp; omega) | omega)).trans (by first | assumption | (go_simp; done)); have x1 : W1.cell? ⟨w.heap.size, 1, none⟩ = some (.int .u64 h) := (hb1.cell (p := ⟨w.heap.size, 1, none⟩) (by first | (simp; done) | (simp; omega) | omega)).trans (by first | assumption | (go_simp; done)); have x2 : W1.cell? ⟨w.heap.size, 2, none⟩ = some (.int .u64 l) := (hb1.cell (p := ⟨w.heap.size, 2, none⟩) (by first | (simp; done) | (simp; omega) | omega)).trans (by first | assumption | (go_simp; done)); have x3 : W1.cell? ⟨w.heap.size, 3, none⟩ = some (.int .i64 b) := (hb1.cell (p := ⟨w.heap.size, 3, none⟩) (by first | (simp; done) | (simp; omega) | omega)).trans (by first | assumption | (go_simp; done))
  have hsz : w.heap.size + 1 ≤ W1.heap.size := (by have := hb1.size; (try simp at this); omega); have hl0 : w.heap.size < W1.heap.size := (by omega)
  have HBW : Hid (Below w.heap.size w W1) := (by first | exact Lib.hid (HBW.out.trans (hb1.mono (by omega))) | exact Lib.hid (HBW.out.drew.trans (hb1.mono (show w.heap.size ≤ W.heap.size by omega))))
  clear hb1 hu
  go_wp2_with fail
  go_region_held3 (fun w' => w'.cell? ⟨w.heap.size, 0, none⟩ = some (.bool s) ∧ w'.cell? ⟨w.heap.size, 1, none⟩ = some (.int .u64 h) ∧ w'.cell? ⟨w.heap.size, 2, none⟩ = some (.int .u64 l) ∧ w'.cell? ⟨w.heap.size, 3, none⟩ = some (.int .i64 b))
    (first | exact ⟨x0, x1, x2, x3⟩ | ((repeat' apply And.intro) <;> (first | (go_simp; done) | with_reducible assumption)))
    (first
      | (go_at_call 107; refine (spanLength_any _ _ _ _).mono ?_; rintro e W2 ⟨rfl, hb2⟩; have x0 : W2.cell? ⟨w.heap.size, 0, none⟩ = some (.bool s) := (hb2.cell (p := ⟨w.heap.size, 0, none⟩) (by first | (simp; done) | (simp; omega) | omega)).trans (by first | assumption | (go_simp; done)); have x1 : W2.cell? ⟨w.heap.size, 1, none⟩ = some (.int .u64 h) := (hb2.cell (p := ⟨w.heap.size, 1, none⟩) (by first | (simp; done) | (simp; omega) | omega)).trans (by first | assumption | (go_simp; done)); have x2 : W2.cell? ⟨w.heap.size, 2, none⟩ = some (.int .u64 l) := (hb2.cell (p := ⟨w.heap.size, 2, none⟩) (by first | (simp; done) | (simp; omega) | omega)).trans (by first | assumption | (go_simp; done)); have x3 : W2.cell? ⟨w.heap.size, 3, none⟩ = some (.int .i64 b) := (hb2.cell (p := ⟨w.heap.size, 3, none⟩) (by first | (simp; done) | (simp; omega) | omega)).trans (by first | assumption | (go_simp; done)); have hsz : w.heap.size + 1 ≤ W2.heap.size := (by have := hb2.size; (try simp at this); omega); have hl0 : w.heap.size < W2.heap.size := (by omega); have HBW : Hid (Below w.heap.size w W2) := (by first | exact Lib.hid (HBW.out.trans (hb2.mono (by omega))) | exact Lib.hid (HBW.out.drew.trans (hb2.mono (show w.heap.size ≤ W1.heap.size by omega)))))
      | (go_at_call 61; refine (outside_any _ _ _ _).mono ?_; rintro e W9 ⟨rfl, rfl⟩; rw [HIN.out]))
  go_wp2_with fail
  go_region_held3 (fun w' => w'.cell? ⟨w.heap.size, 0, none⟩ = some (.bool s) ∧ w'.cell? ⟨w.heap.size, 1, none⟩ = some (.int .u64 h) ∧ w'.cell? ⟨w.heap.size, 2, none⟩ = some (.int .u64 l) ∧ w'.cell? ⟨w.heap.size, 3, none⟩ = some (.int .i64 b))
    (first | exact ⟨x0, x1, x2, x3⟩ | ((repeat' apply And.intro) <;> (first | (go_simp; done) | with_reducible assumption)))
    (first
      | (go_at_call 108; refine (masked_any s h l b _ uh ul m HM.out hm2).mono ?_; rintro e W3 ⟨rfl, hb3⟩; rw [HC1.out, HC2.out]; have x0 : W3.cell? ⟨w.heap.size, 0, none⟩ = some (.bool s) := (hb3.cell (p := ⟨w.heap.size, 0, none⟩) (by first | (simp; done) | (simp; omega) | omega)).trans (by first | assumption | (go_simp; done)); have x1 : W3.cell? ⟨w.heap.size, 1, none⟩ = some (.int .u64 h) := (hb3.cell (p := ⟨w.heap.size, 1, none⟩) (by first | (simp; done) | (simp; omega) | omega)).trans (by first | assumption | (go_simp; done)); have x2 : W3.cell? ⟨w.heap.size, 2, none⟩ = some (.int .u64 l) := (hb3.cell (p := ⟨w.heap.size, 2, none⟩) (by first | (simp; done) | (simp; omega) | omega)).trans (by first | assumption | (go_simp; done)); have x3 : W3.cell? ⟨w.heap.size, 3, none⟩ = some (.int .i64 b) := (hb3.cell (p := ⟨w.heap.size, 3, none⟩) (by first | (simp; done) | (simp; omega) | omega)).trans (by first | assumption | (go_simp; done)); have hsz : w.heap.size + 1 ≤ W3.heap.size := (by have := hb3.size; (try simp at this); omega); have hl0 : w.heap.size < W3.heap.size := (by omega); have HBW : Hid (Below w.heap.size w W3) := (by first | exact Lib.hid (HBW.out.trans (hb3.mono (by omega))) | exact Lib.hid (HBW.out.drew.trans (hb3.mono (show w.heap.size ≤ W2.heap.size by omega))))))
  go_wp2_with fail
  go_ret
  exact ⟨rfl, HBW.out⟩
end Go.Proofs.YtkbbmlkgaooaiaaGreatDoor

namespace Go.Proofs.YtkbbmlkgaooaiaaGreatDoor
open Go.RowKit Go.Hw Go.Shelf

theorem rt_parts {xs : List Rt} (h : rtFault xs = 0) (hl : xs.length ≤ 500) {i : Nat} (hi : i < xs.length) : rtCode xs i = 0 := by
  by_cases hz : rtCode xs i = 0
  · exact hz
  · exfalso
    have : ∀ n, n ≤ xs.length → ∀ j, j < n → rtCode xs j = 0 := by
      intro n
      induction n with
      | zero => intro _ j hj; omega
      | succ n ih =>
        intro hn j hj
        by_cases e : j = n
        · subst e
          by_cases hc : rtCode xs j = 0
          · exact hc
          · exact absurd (rtFault_at hl (by omega) (ih (by omega)) hc ▸ h) hc
        · exact ih (by omega) j (by omega)
    exact hz (this xs.length (Nat.le_refl _) i hi)
/-- The order of two routers' prefixes. -/
def spanP (p x : Rt) : Int := orOf [spanC p.six p.hi p.lo x.six x.hi x.lo, cmpI p.bits x.bits]
theorem ordP_span {p x : Rt} (hp : RtT p) (hx : RtT x) : ordP p x = spanP p x := by
  unfold ordP spanP
  rw [cmp_span hp.hi hp.lo hx.hi hx.lo]
theorem rt_of {xs : List Rt} {i : Nat} (h : rtCode xs i = 0) : pfCode (xs.getD i noRt).six (xs.getD i noRt).hi (xs.getD i noRt).lo (xs.getD i noRt).bits = 0 ∧ isKey (xs.getD i noRt).node = true ∧ (0 ≤ (xs.getD i noRt).weight ∧ (xs.getD i noRt).weight ≤ 1000) ∧
    (0 < i → ¬ 0 ≤ orOf [ordP (xs.getD (i - 1) noRt) (xs.getD i noRt), Lib.compareBytes (xs.getD (i - 1) noRt).node.data.toList (xs.getD i noRt).node.data.toList]) := by
  unfold rtCode at h
  split at h
  · rename_i h1; exact absurd h h1
  split at h
  · cases h
  split at h
  · cases h
  split at h
  · cases h
  · rename_i h1 h2 h3 h4
    exact ⟨Decidable.not_not.1 h1, by simpa using h2, Decidable.not_not.1 h3, fun hi hn => h4 ⟨hi, hn⟩⟩

set_option maxRecDepth 100000 in
set_option maxHeartbeats 2000000 in
theorem checkRouters_any (A : Option Addr) (cap : Nat) (xs : List Rt) (w : World) (h : RtsAt w w.heap.size A xs) (hl : xs.length ≤ 500) (ht : ∀ y ∈ xs, RtT y) (hf : rtFault xs = 0) :
    Calls Tryz.prog 46 #[.slice A xs.length cap] w fun e w' => e = .returned (.int .i64 0) ∧ Below w.heap.size w w' := by
  have H := Lib.hid h
  have HT := Lib.hid (rtT_at ht)
  have HF := Lib.hid hf
  clear h ht hf
  go_enter Tryz.func46, Tryz.ntmps46
  go_wp2_with fail
  go_loopw [11] (fun i wr => ∃ k : Nat, k ≤ xs.length ∧ i = .int .i64 k ∧ Below w.heap.size w wr) (fun i _ => xs.length - (intOf i).toNat)
  case atStart => exact ⟨0, Nat.zero_le _, rfl, Below.refl _ _⟩
  case round =>
    obtain ⟨k, hk, rfl, hb⟩ := hrel
    by_cases hlt : k < xs.length
    · obtain ⟨g, off, rfl, hg, c0, c1, c2, c3, c4, c5⟩ := (H.out.below hb) k hlt
      obtain ⟨hpc, ka, km, hord⟩ := rt_of (rt_parts HF.out hl hlt)
      have hord' : 0 < k → ¬ 0 ≤ orOf [spanP (xs.getD (k - 1) noRt) (xs.getD k noRt), Lib.compareBytes (xs.getD (k - 1) noRt).node.data.toList (xs.getD k noRt).node.data.toList] := fun hk0 => by
        rw [← ordP_span (HT.out (k - 1)) (HT.out k)]; exact hord hk0
      obtain ⟨uh, ul, hn2⟩ := HT.out k
      have HORD := Lib.hid hord'
      have hsz := hb.size
      clear hord hord'
      generalize xs.getD k noRt = x at *
      obtain ⟨xs_, xh, xl, xb, xn, xw⟩ := x
      simp only at c0 c1 c2 c3 c4 c5 uh ul hn2 hpc ka km
      have s1 : xn.size ≤ maxLen := by unfold maxLen; omega
      have hin : (decide (xw < (0 : Int)) || decide (1000 < xw)) = false := by simp; omega
      have HPC := Lib.hid hpc
      have hbx := heap_alloc_new wr (.cells #[.bool xs_, .int .u64 xh, .int .u64 xl, .int .i64 xb, .string xn, .int .i64 xw] 55)
      have hlw : wr.heap.size < (wr.alloc (.cells #[.bool xs_, .int .u64 xh, .int .u64 xl, .int .i64 xb, .string xn, .int .i64 xw] 55)).heap.size := by simp
      have HBW := Lib.hid (hb.alloc hb.size (.cells #[.bool xs_, .int .u64 xh, .int .u64 xl, .int .i64 xb, .string xn, .int .i64 xw] 55))
      obtain ⟨⟨x0, x1, x2, x3, x4, x5⟩, -⟩ := res6 hbx
      clear hbx hb hpc km
      go_wp2_with fail
      refine (checkPrefix_any _ _ _ _ _ uh ul HPC.out).mono ?_
      rintro e w1 ⟨rfl, hb1⟩
      have x0 : w1.cell? ⟨wr.heap.size, 0, none⟩ = some (.bool xs_) := (hb1.cell (p := ⟨wr.heap.size, 0, none⟩) (by first | (simp; done) | (simp; omega) | omega)).trans (by first | assumption | (go_simp; done))
      have x1 : w1.cell? ⟨wr.heap.size, 1, none⟩ = some (.int .u64 xh) := (hb1.cell (p := ⟨wr.heap.size, 1, none⟩) (by first | (simp; done) | (simp; omega) | omega)).trans (by first | assumption | (go_simp; done))
      have x2 : w1.cell? ⟨wr.heap.size, 2, none⟩ = some (.int .u64 xl) := (hb1.cell (p := ⟨wr.heap.size, 2, none⟩) (by first | (simp; done) | (simp; omega) | omega)).trans (by first | assumption | (go_simp; done))
      have x3 : w1.cell? ⟨wr.heap.size, 3, none⟩ = some (.int .i64 xb) := (hb1.cell (p := ⟨wr.heap.size, 3, none⟩) (by first | (simp; done) | (simp; omega) | omega)).trans (by first | assumption | (go_simp; done))
      have x4 : w1.cell? ⟨wr.heap.size, 4, none⟩ = some (.string xn) := (hb1.cell (p := ⟨wr.heap.size, 4, none⟩) (by first | (simp; done) | (simp; omega) | omega)).trans (by first | assumption | (go_simp; done))
      have x5 : w1.cell? ⟨wr.heap.size, 5, none⟩ = some (.int .i64 xw) := (hb1.cell (p := ⟨wr.heap.size, 5, none⟩) (by first | (simp; done) | (simp; omega) | omega)).trans (by first | assumption | (go_simp; done))
      have hlw : wr.heap.size < w1.heap.size := Nat.lt_of_lt_of_le hlw hb1.size
      have HBW := Lib.hid (HBW.out.trans (hb1.mono HBW.out.size))
      clear hb1
      by_cases k0 : k = 0
      · have hd : decide (0 < k) = false := by simp; omega
        clear k0 HORD
        go_wp2_with fail
        refine (isKey_any xn _ s1).mono ?_
        rintro e w9 ⟨rfl, rfl⟩
        rw [ka]
        go_wp2_with fail
        refine (outside_any _ _ _ _).mono ?_
        rintro e w3 ⟨rfl, rfl⟩
        rw [hin]
        go_wp2_with fail
        go_quiet (fail)
        go_wp2_with fail
        go_roundw
        case rel => exact ⟨k + 1, by omega, by go_num, ⟨HBW.out.os, HBW.out.tape, HBW.out.output, HBW.out.size, HBW.out.block⟩⟩
        case measure => simp [intOf]; omega
      · obtain ⟨g', off', e', hg', p0, p1, p2, p3, p4, p5⟩ := (H.out.below HBW.out) (k - 1) (by omega)
        injection e' with e'
        injection e' with e1 e2
        subst e1 e2
        have HNO := HORD.out (by omega)
        have k0' : 0 < k := by omega
        have hk1 : 0 ≤ (k : Int) - 1 := by omega
        have hk2 : (k : Int) - 1 < (xs.length : Int) := by omega
        clear k0 HORD
        generalize xs.getD (k - 1) noRt = p at *
        obtain ⟨ps, ph, pl, pb, pn, pw⟩ := p
        simp only at p0 p1 p2 p3 p4 p5
        unfold spanP at HNO
        simp only at HNO
        have HNO' := Lib.hid HNO
        have hgw : g < w1.heap.size := by have := HBW.out.size; omega
        clear HNO
        go_wp2_with fail
        refine (isKey_any xn _ s1).mono ?_
        rintro e w9 ⟨rfl, rfl⟩
        rw [ka]
        go_wp2_with fail
        refine (outside_any _ _ _ _).mono ?_
        rintro e w3 ⟨rfl, rfl⟩
        rw [hin]
        have hd : decide (0 < k) = true := by simp; omega
        go_wp2_with fail
        have s1' : (1 : Int) ≤ (k : Int) := by omega
        have s0 : IntKind.i64.wrap ((k : Int) - 1) = (k : Int) - 1 := IntWalk.i64_in _ (by omega)
        have s2' : ((k : Int) - 1).toNat = k - 1 := by omega
        go_region_held3 (fun w' => w'.cell? ⟨g, off + (k - 1) * 6, none⟩ = some (.bool ps) ∧ w'.cell? ⟨g, off + (k - 1) * 6 + 1, none⟩ = some (.int .u64 ph) ∧ w'.cell? ⟨g, off + (k - 1) * 6 + 2, none⟩ = some (.int .u64 pl) ∧ w'.cell? ⟨g, off + (k - 1) * 6 + 3, none⟩ = some (.int .i64 pb) ∧ w'.cell? ⟨g, off + (k - 1) * 6 + 4, none⟩ = some (.string pn) ∧ w'.cell? ⟨g, off + (k - 1) * 6 + 5, none⟩ = some (.int .i64 pw) ∧ w'.cell? ⟨wr.heap.size, 0, none⟩ = some (.bool xs_) ∧ w'.cell? ⟨wr.heap.size, 1, none⟩ = some (.int .u64 xh) ∧ w'.cell? ⟨wr.heap.size, 2, none⟩ = some (.int .u64 xl) ∧ w'.cell? ⟨wr.heap.size, 3, none⟩ = some (.int .i64 xb) ∧ w'.cell? ⟨wr.heap.size, 4, none⟩ = some (.string xn) ∧ w'.cell? ⟨wr.heap.size, 5, none⟩ = some (.int .i64 xw))
          (first | exact ⟨p0, p1, p2, p3, p4, p5, x0, x1, x2, x3, x4, x5⟩ | ((repeat' apply And.intro) <;> (first | (go_simp; done) | with_reducible assumption)))
          (first
            | (go_at_call 84; refine (compareRouters_any _ _ _ _ _ _ _ _ _ _ _ _ _).mono ?_; rintro e W1 ⟨rfl, hb1⟩; have p0 : W1.cell? ⟨g, off + (k - 1) * 6, none⟩ = some (.bool ps) := (hb1.cell (p := ⟨g, off + (k - 1) * 6, none⟩) (by first | (simp; done) | (simp; omega) | omega)).trans (by first | assumption | (go_simp; done)); have p1 : W1.cell? ⟨g, off + (k - 1) * 6 + 1, none⟩ = some (.int .u64 ph) := (hb1.cell (p := ⟨g, off + (k - 1) * 6 + 1, none⟩) (by first | (simp; done) | (simp; omega) | omega)).trans (by first | assumption | (go_simp; done)); have p2 : W1.cell? ⟨g, off + (k - 1) * 6 + 2, none⟩ = some (.int .u64 pl) := (hb1.cell (p := ⟨g, off + (k - 1) * 6 + 2, none⟩) (by first | (simp; done) | (simp; omega) | omega)).trans (by first | assumption | (go_simp; done)); have p3 : W1.cell? ⟨g, off + (k - 1) * 6 + 3, none⟩ = some (.int .i64 pb) := (hb1.cell (p := ⟨g, off + (k - 1) * 6 + 3, none⟩) (by first | (simp; done) | (simp; omega) | omega)).trans (by first | assumption | (go_simp; done)); have p4 : W1.cell? ⟨g, off + (k - 1) * 6 + 4, none⟩ = some (.string pn) := (hb1.cell (p := ⟨g, off + (k - 1) * 6 + 4, none⟩) (by first | (simp; done) | (simp; omega) | omega)).trans (by first | assumption | (go_simp; done)); have p5 : W1.cell? ⟨g, off + (k - 1) * 6 + 5, none⟩ = some (.int .i64 pw) := (hb1.cell (p := ⟨g, off + (k - 1) * 6 + 5, none⟩) (by first | (simp; done) | (simp; omega) | omega)).trans (by first | assumption | (go_simp; done)); have x0 : W1.cell? ⟨wr.heap.size, 0, none⟩ = some (.bool xs_) := (hb1.cell (p := ⟨wr.heap.size, 0, none⟩) (by first | (simp; done) | (simp; omega) | omega)).trans (by first | assumption | (go_simp; done)); have x1 : W1.cell? ⟨wr.heap.size, 1, none⟩ = some (.int .u64 xh) := (hb1.cell (p := ⟨wr.heap.size, 1, none⟩) (by first | (simp; done) | (simp; omega) | omega)).trans (by first | assumption | (go_simp; done)); have x2 : W1.cell? ⟨wr.heap.size, 2, none⟩ = some (.int .u64 xl) := (hb1.cell (p := ⟨wr.heap.size, 2, none⟩) (by first | (simp; done) | (simp; omega) | omega)).trans (by first | assumption | (go_simp; done)); have x3 : W1.cell? ⟨wr.heap.size, 3, none⟩ = some (.int .i64 xb) := (hb1.cell (p := ⟨wr.heap.size, 3, none⟩) (by first | (simp; done) | (simp; omega) | omega)).trans (by first | assumption | (go_simp; done)); have x4 : W1.cell? ⟨wr.heap.size, 4, none⟩ = some (.string xn) := (hb1.cell (p := ⟨wr.heap.size, 4, none⟩) (by first | (simp; done) | (simp; omega) | omega)).trans (by first | assumption | (go_simp; done)); have x5 : W1.cell? ⟨wr.heap.size, 5, none⟩ = some (.int .i64 xw) := (hb1.cell (p := ⟨wr.heap.size, 5, none⟩) (by first | (simp; done) | (simp; omega) | omega)).trans (by first | assumption | (go_simp; done)); have hl0 : wr.heap.size < W1.heap.size := (by have := hb1.size; (try simp at this); omega); have hl1 : g < W1.heap.size := (by have := hb1.size; (try simp at this); omega); have HBW : Hid (Below w.heap.size w W1) := (by first | exact Lib.hid (HBW.out.drew.trans (hb1.mono (show w.heap.size ≤ w1.heap.size by omega))) | exact Lib.hid (HBW.out.trans (hb1.mono (by omega))))))
        clear s1' s0 s2' hd k0' hk1 hk2
        have ho := HNO'.out
        have HW := HBW
        generalize orOf [orOf [spanC ps ph pl xs_ xh xl, cmpI pb xb], Lib.compareBytes pn.data.toList xn.data.toList] = o at *
        go_wp2_with fail
        go_roundw
        case rel => exact ⟨k + 1, by omega, by go_num, HW.out⟩
        case measure => simp [intOf]; omega
    · have : k = xs.length := by omega
      subst this
      go_wp2_with fail
      go_ret
      exact ⟨rfl, hb⟩
end Go.Proofs.YtkbbmlkgaooaiaaGreatDoor
