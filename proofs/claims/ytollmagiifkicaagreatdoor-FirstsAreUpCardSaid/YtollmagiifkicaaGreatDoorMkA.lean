/- The plain law of masks and of the order of addresses: digits of 2^16 against numbers of 64 bits. -/
import Derived.Test.YtollmagiifkicaaGreatDoorWdF
namespace Go.Proofs.YtollmagiifkicaaGreatDoor
open Go.RowKit Go.Hw

theorem num_dg {n : Int} (h : U64 n) : n = dg n 3 * 281474976710656 + dg n 2 * 4294967296 + dg n 1 * 65536 + dg n 0 := by
  unfold U64 at h
  unfold dg
  simp only [Nat.reduceMul, Int.reducePow, Nat.mul_zero, Int.pow_zero, Int.ediv_one]
  omega
theorem dg_ext {n k : Int} (h : U64 n) (h' : U64 k) (e : ∀ i, i < 4 → dg n i = dg k i) : n = k := by
  have h1 := num_dg h
  have h2 := num_dg h'
  rw [e 0 (by omega), e 1 (by omega), e 2 (by omega), e 3 (by omega)] at h1
  omega
theorem clr_u64 {n : Int} (h : U64 n) (m : Nat) : U64 (clr n m) := by
  unfold U64 clr at *
  have hp : (0 : Int) < 2 ^ m := Int.pow_pos (by decide)
  have h2 := Int.ediv_nonneg h.1 (Int.le_of_lt hp)
  have h3 := Int.ediv_mul_le n (Int.ne_of_gt hp)
  exact ⟨Int.mul_nonneg h2 (Int.le_of_lt hp), by omega⟩
/-- A digit of a number whose last bits are cleared. -/
theorem clr_dg {n : Int} (h : U64 n) (M i : Nat) : clr (dg n i) (min 16 (M - 16 * i)) = dg (clr n M) i := by
  obtain ⟨N, rfl⟩ := Int.eq_ofNat_of_zero_le h.1
  have e1 : dg (N : Int) i = ((N / 2 ^ (16 * i) % 65536 : Nat) : Int) := by unfold dg; simp
  have ec : ∀ (X m : Nat), clr (X : Int) m = ((X / 2 ^ m * 2 ^ m : Nat) : Int) := fun X m => by unfold clr; simp
  have e2 : dg ((N / 2 ^ M * 2 ^ M : Nat) : Int) i = ((N / 2 ^ M * 2 ^ M / 2 ^ (16 * i) % 65536 : Nat) : Int) := by unfold dg; simp
  rw [e1, ec, ec, e2]
  congr 1
  apply Nat.eq_of_testBit_eq
  intro j
  rw [clr_bit, show (65536 : Nat) = 2 ^ 16 from rfl, Nat.testBit_mod_two_pow, Nat.testBit_mod_two_pow, Nat.testBit_div_two_pow, Nat.testBit_div_two_pow, clr_bit]
  by_cases h1 : j < 16
  · by_cases h2 : min 16 (M - 16 * i) ≤ j
    · rw [decide_eq_true h2, decide_eq_true (show M ≤ j + 16 * i by omega)]
      simp
    · rw [decide_eq_false h2, decide_eq_false (show ¬ M ≤ j + 16 * i by omega)]
      simp
  · rw [decide_eq_false h1]
    simp
theorem clr_min {x : Int} {a b : Nat} (h : a = b) : clr x a = clr x b := by rw [h]
/-- The digits of a masked address. -/
theorem clrd_wd {s : Bool} {hi lo : Int} (uh : U64 hi) (ul : U64 lo) {m : Nat} (hm : m ≤ 128) {i : Nat} (hi9 : i < 9) : clrd (wd s hi lo) m i = wd s (clr hi (m - 64)) (clr lo (min 64 m)) i := by
  unfold clrd wd
  by_cases h1 : i < 4
  · rw [if_pos h1, if_pos h1, ← clr_dg ul]
    exact clr_min (by omega)
  · rw [if_neg h1, if_neg h1]
    by_cases h2 : i < 8
    · rw [if_pos h2, if_pos h2, ← clr_dg uh]
      exact clr_min (by omega)
    · rw [if_neg h2, if_neg h2]
      have : min 16 (m - 16 * i) = 0 := by omega
      rw [this]
      unfold clr
      simp
theorem eqN_iff {d e : Nat → Int} : eqN d e = true ↔ ∀ i, i < 9 → d i = e i := by
  unfold eqN
  simp only [Bool.and_eq_true, beq_iff_eq]
  constructor
  · rintro ⟨h0, h1, h2, h3, h4, h5, h6, h7, h8⟩ i hi
    have : i = 0 ∨ i = 1 ∨ i = 2 ∨ i = 3 ∨ i = 4 ∨ i = 5 ∨ i = 6 ∨ i = 7 ∨ i = 8 := by omega
    rcases this with rfl | rfl | rfl | rfl | rfl | rfl | rfl | rfl | rfl <;> assumption
  · intro h
    exact ⟨h 0 (by omega), h 1 (by omega), h 2 (by omega), h 3 (by omega), h 4 (by omega), h 5 (by omega), h 6 (by omega), h 7 (by omega), h 8 (by omega)⟩
theorem wd_ext {s s' : Bool} {hi lo hi' lo' : Int} (uh : U64 hi) (ul : U64 lo) (uh' : U64 hi') (ul' : U64 lo') (h : ∀ i, i < 9 → wd s hi lo i = wd s' hi' lo' i) : s = s' ∧ hi = hi' ∧ lo = lo' := by
  refine ⟨?_, dg_ext uh uh' fun i hi4 => ?_, dg_ext ul ul' fun i hi4 => ?_⟩
  · have := h 8 (by omega)
    unfold wd at this
    simp at this
    cases s <;> cases s' <;> simp at this ⊢
  · have := h (4 + i) (by omega)
    unfold wd at this
    rw [if_neg (by omega), if_pos (by omega), if_neg (by omega), if_pos (by omega), show 4 + i - 4 = i from by omega] at this
    exact this
  · have := h i (by omega)
    unfold wd at this
    rw [if_pos hi4, if_pos hi4] at this
    exact this
/-- The last bits are 0 just if masking changes nothing. -/
theorem mask_iff {s : Bool} {hi lo : Int} (uh : U64 hi) (ul : U64 lo) {m : Nat} (hm : m ≤ 128) : eqN (clrd (wd s hi lo) m) (wd s hi lo) = true ↔ clr hi (m - 64) = hi ∧ clr lo (min 64 m) = lo := by
  rw [eqN_iff]
  constructor
  · intro h
    have := wd_ext (s := s) (s' := s) (clr_u64 uh (m - 64)) (clr_u64 ul (min 64 m)) uh ul fun i hi => by rw [← clrd_wd uh ul hm hi]; exact h i hi
    exact this.2
  · rintro ⟨h1, h2⟩ i hi
    rw [clrd_wd uh ul hm hi, h1, h2]
/-- The order of addresses. -/
def spanC (s : Bool) (h l : Int) (s' : Bool) (h' l' : Int) : Int := if s = s' then orOf [cmpI h h', cmpI l l'] else if s' = true then -1 else 1
theorem sgn_cmp (a b : Int) : sgn (a - b) = cmpI a b := by
  unfold sgn cmpI
  by_cases h1 : a < b
  · rw [if_pos (by omega), if_pos h1]
  · rw [if_neg (by omega), if_neg h1]
    by_cases h2 : b < a
    · rw [if_pos (by omega), if_pos h2]
    · rw [if_neg (by omega), if_neg h2]
theorem cmp_four {n k : Int} (h : U64 n) (h' : U64 k) (r : Int) :
    (if dg n 3 = dg k 3 then if dg n 2 = dg k 2 then if dg n 1 = dg k 1 then if dg n 0 = dg k 0 then r else cmpI (dg n 0) (dg k 0) else cmpI (dg n 1) (dg k 1) else cmpI (dg n 2) (dg k 2) else cmpI (dg n 3) (dg k 3)) = if n = k then r else cmpI n k := by
  have h1 := num_dg h
  have h2 := num_dg h'
  have a0 := dg_bd n 0
  have a1 := dg_bd n 1
  have a2 := dg_bd n 2
  have a3 := dg_bd n 3
  have b0 := dg_bd k 0
  have b1 := dg_bd k 1
  have b2 := dg_bd k 2
  have b3 := dg_bd k 3
  generalize dg n 0 = n0 at *
  generalize dg n 1 = n1 at *
  generalize dg n 2 = n2 at *
  generalize dg n 3 = n3 at *
  generalize dg k 0 = k0 at *
  generalize dg k 1 = k1 at *
  generalize dg k 2 = k2 at *
  generalize dg k 3 = k3 at *
  have hc : ∀ a b : Int, a ≠ b → n ≠ k → ((a < b → n < k) ∧ (b < a → k < n)) → cmpI a b = cmpI n k := by
    intro a b hab hnk hh
    unfold cmpI
    by_cases c1 : a < b
    · rw [if_pos c1, if_pos (hh.1 c1)]
    · rw [if_neg c1, if_pos (show b < a by omega), if_neg (by have := hh.2 (by omega); omega), if_pos (hh.2 (by omega))]
  by_cases e3 : n3 = k3
  · rw [if_pos e3]
    by_cases e2 : n2 = k2
    · rw [if_pos e2]
      by_cases e1 : n1 = k1
      · rw [if_pos e1]
        by_cases e0 : n0 = k0
        · rw [if_pos e0, if_pos (by omega)]
        · rw [if_neg e0, if_neg (by omega)]
          exact hc _ _ e0 (by omega) ⟨fun _ => by omega, fun _ => by omega⟩
      · rw [if_neg e1, if_neg (by omega)]
        exact hc _ _ e1 (by omega) ⟨fun _ => by omega, fun _ => by omega⟩
    · rw [if_neg e2, if_neg (by omega)]
      exact hc _ _ e2 (by omega) ⟨fun _ => by omega, fun _ => by omega⟩
  · rw [if_neg e3, if_neg (by omega)]
    exact hc _ _ e3 (by omega) ⟨fun _ => by omega, fun _ => by omega⟩
theorem cmpI_same (a : Int) : cmpI a a = 0 := by unfold cmpI; simp
theorem cmpI_ne {a b : Int} (h : a ≠ b) : cmpI a b ≠ 0 := by
  unfold cmpI
  by_cases h1 : a < b
  · rw [if_pos h1]; decide
  · rw [if_neg h1, if_pos (by omega)]; decide
/-- The order by digits is the order by numbers. -/
theorem cmp_span {s s' : Bool} {h l h' l' : Int} (uh : U64 h) (ul : U64 l) (uh' : U64 h') (ul' : U64 l') : cmpN (wd s h l) (wd s' h' l') 9 = spanC s h l s' h' l' := by
  have e8 : wd s h l 8 = if s then 1 else 0 := rfl
  have e8' : wd s' h' l' 8 = if s' then 1 else 0 := rfl
  by_cases hs : s = s'
  · subst hs
    have hhi := cmp_four uh uh' (cmpN (wd s h l) (wd s h' l') 4)
    have hlo := cmp_four ul ul' 0
    unfold spanC
    rw [if_pos rfl]
    have h9 : cmpN (wd s h l) (wd s h' l') 9 = cmpN (wd s h l) (wd s h' l') 8 := by
      show (if wd s h l 8 = wd s h' l' 8 then _ else _) = _
      rw [if_pos (by rw [e8, e8'])]
    have h84 : cmpN (wd s h l) (wd s h' l') 8 = if h = h' then cmpN (wd s h l) (wd s h' l') 4 else cmpI h h' := by
      rw [← hhi]
      simp only [cmpN, sgn_cmp]
      rfl
    have h40 : cmpN (wd s h l) (wd s h' l') 4 = if l = l' then 0 else cmpI l l' := by
      rw [← hlo]
      simp only [cmpN, sgn_cmp]
      rfl
    rw [h9, h84, h40]
    unfold orOf orOf orOf
    by_cases c1 : h = h'
    · subst c1
      rw [if_pos rfl, if_pos (cmpI_same h)]
      by_cases c2 : l = l'
      · subst c2
        rw [if_pos rfl, if_pos (cmpI_same l)]
      · rw [if_neg c2, if_neg (cmpI_ne c2)]
    · rw [if_neg c1, if_neg (cmpI_ne c1)]
  · unfold spanC
    rw [if_neg hs]
    show (if wd s h l 8 = wd s' h' l' 8 then _ else sgn (wd s h l 8 - wd s' h' l' 8)) = _
    rw [e8, e8']
    cases s <;> cases s' <;> simp at hs ⊢ <;> rfl
end Go.Proofs.YtollmagiifkicaaGreatDoor
