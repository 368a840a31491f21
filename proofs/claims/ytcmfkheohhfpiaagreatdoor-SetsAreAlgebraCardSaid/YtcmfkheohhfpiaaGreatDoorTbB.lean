/- Addresses and prefixes as numbers. -/
import Derived.Test.YtcmfkheohhfpiaaGreatDoorTbA
import Derived.Test.YtcmfkheohhfpiaaGreatDoorTbP
namespace Go.Proofs.YtcmfkheohhfpiaaGreatDoor
open Go.RowKit Go.Hw
def nOf (h l : Int) : Nat := (h * 18446744073709551616 + l).toNat
def pxOf (s : Bool) (h l b : Int) : Px := ⟨s, nOf h l, (lenA s - b).toNat⟩
theorem nOf_nat (H L : Nat) : nOf H L = H * 18446744073709551616 + L := by unfold nOf; omega
theorem nOf_inj {h l h' l' : Int} (uh : U64 h) (ul : U64 l) (uh' : U64 h') (ul' : U64 l') (e : nOf h l = nOf h' l') : h = h' ∧ l = l' := by
  unfold nOf U64 at *
  omega
theorem clr_nat (X m : Nat) : clr (X : Int) m = ((X / 2 ^ m * 2 ^ m : Nat) : Int) := by unfold clr; simp
theorem floor_two (H L m : Nat) (hL : L < 18446744073709551616) : (H / 2 ^ (m - 64) * 2 ^ (m - 64)) * 18446744073709551616 + L / 2 ^ (min 64 m) * 2 ^ (min 64 m) = (H * 18446744073709551616 + L) / 2 ^ m * 2 ^ m := by
  have h64 : (18446744073709551616 : Nat) = 2 ^ 64 := by decide
  rcases Nat.le_total m 64 with hm | hm
  · have e1 : m - 64 = 0 := by omega
    have e2 : min 64 m = m := by omega
    have e3 : (2 : Nat) ^ 64 = 2 ^ m * 2 ^ (64 - m) := by rw [← Nat.pow_add]; congr 1; omega
    rw [e1, e2, Nat.pow_zero, Nat.div_one, Nat.mul_one, h64, e3]
    have e4 : H * (2 ^ m * 2 ^ (64 - m)) + L = 2 ^ m * (H * 2 ^ (64 - m)) + L := by rw [Nat.mul_left_comm]
    rw [e4, Nat.mul_add_div (Nat.two_pow_pos m), Nat.add_mul, Nat.mul_assoc H, Nat.mul_comm (2 ^ (64 - m)) (2 ^ m)]
  · obtain ⟨d, rfl⟩ := Nat.exists_eq_add_of_le hm
    have e1 : 64 + d - 64 = d := by omega
    have e2 : min 64 (64 + d) = 64 := by omega
    have e5 : L / 2 ^ 64 = 0 := Nat.div_eq_of_lt (by rw [← h64]; exact hL)
    have e6 : (H * 2 ^ 64 + L) / 2 ^ 64 = H := by
      rw [Nat.mul_comm, Nat.mul_add_div (Nat.two_pow_pos 64), e5, Nat.add_zero]
    rw [e1, e2, h64, e5, Nat.zero_mul, Nat.add_zero, Nat.pow_add, ← Nat.div_div_eq_div_mul, e6, Nat.mul_comm (2 ^ 64) (2 ^ d), Nat.mul_assoc]
theorem nOf_clr {h l : Int} (uh : U64 h) (ul : U64 l) (m : Nat) : nOf (clr h (m - 64)) (clr l (min 64 m)) = nOf h l / 2 ^ m * 2 ^ m := by
  obtain ⟨H, rfl⟩ := Int.eq_ofNat_of_zero_le uh.1
  obtain ⟨L, rfl⟩ := Int.eq_ofNat_of_zero_le ul.1
  rw [clr_nat, clr_nat, nOf_nat, nOf_nat]
  exact floor_two H L m (by have := ul.2; omega)
theorem right_al {s : Bool} {h l b : Int} (H : PfRight s h l b) : (pxOf s h l b).al := by
  obtain ⟨hf, -, m, hm, hm2, h1, h2⟩ := H
  have hmm : (lenA s - b).toNat = m := by omega
  have := nOf_clr hf.1 hf.2.1 m
  rw [h1, h2] at this
  unfold pxOf Px.al
  simp only
  rw [hmm, this]
  exact Nat.dvd_mul_left _ _
theorem dvd_gap {d X M : Nat} (h1 : d ∣ X) (h2 : d ∣ M) (h3 : X < M) : X + d ≤ M := by
  obtain ⟨a, rfl⟩ := h1
  obtain ⟨b, rfl⟩ := h2
  have : a < b := Nat.lt_of_mul_lt_mul_left h3
  rw [← Nat.mul_succ]
  exact Nat.mul_le_mul_left d this
theorem lowM_nat (k : Nat) : lowM k = ((2 ^ k - 1 : Nat) : Int) := by
  unfold lowM
  have h3 : 1 ≤ (2 : Nat) ^ k := Nat.one_le_two_pow
  have e' : (2 : Int) ^ k = ((2 ^ k : Nat) : Int) := by simp
  rw [e']
  generalize (2 : Nat) ^ k = P at *
  omega
theorem last_sum (X Y : Nat) {P1 P2 P3 : Nat} (h : (P1 - 1) * 18446744073709551616 + (P2 - 1) = P3 - 1) : (X + (P1 - 1)) * 18446744073709551616 + (Y + (P2 - 1)) = X * 18446744073709551616 + Y + (P3 - 1) := by
  rw [Nat.add_mul, ← h]
  exact Nat.add_add_add_comm _ _ _ _
/-- The last address of a right prefix. -/
theorem last_num {s : Bool} {h l b : Int} (H : PfRight s h l b) : ∃ m : Nat, lenA s - b = m ∧ m ≤ 128 ∧ nOf (fil h (m - 64)) (fil l (min 64 m)) = nOf h l + (2 ^ m - 1) ∧ AddrFine s (fil h (m - 64)) (fil l (min 64 m)) := by
  have hal := right_al H
  obtain ⟨hf, hb0, m, hm, hm2, h1, h2⟩ := H
  refine ⟨m, hm, hm2, ?_⟩
  unfold fil
  rw [h1, h2, lowM_nat, lowM_nat]
  have hmm : (lenA s - b).toNat = m := by omega
  unfold pxOf Px.al at hal
  simp only at hal
  rw [hmm] at hal
  obtain ⟨X, rfl⟩ := Int.eq_ofNat_of_zero_le hf.1.1
  obtain ⟨Y, rfl⟩ := Int.eq_ofNat_of_zero_le hf.2.1.1
  have hX := hf.1.2
  have hY := hf.2.1.2
  rw [clr_nat] at h1 h2
  have d1 : 2 ^ (m - 64) ∣ X := ⟨X / 2 ^ (m - 64), by have := Int.ofNat.inj h1; rw [Nat.mul_comm]; exact this.symm⟩
  have d2 : 2 ^ (min 64 m) ∣ Y := ⟨Y / 2 ^ (min 64 m), by have := Int.ofNat.inj h2; rw [Nat.mul_comm]; exact this.symm⟩
  have k1 : (2 : Nat) ^ (m - 64) ∣ 18446744073709551616 := by
    rw [show (18446744073709551616 : Nat) = 2 ^ 64 by decide]; exact Nat.pow_dvd_pow 2 (by omega)
  have k2 : (2 : Nat) ^ (min 64 m) ∣ 18446744073709551616 := by
    rw [show (18446744073709551616 : Nat) = 2 ^ 64 by decide]; exact Nat.pow_dvd_pow 2 (by omega)
  have b1 : X + 2 ^ (m - 64) ≤ 18446744073709551616 := dvd_gap d1 k1 (by omega)
  have b2 : Y + 2 ^ (min 64 m) ≤ 18446744073709551616 := dvd_gap d2 k2 (by omega)
  have p1 := Nat.two_pow_pos (m - 64)
  have p2 := Nat.two_pow_pos (min 64 m)
  rw [← Int.natCast_add, ← Int.natCast_add, nOf_nat, nOf_nat]
  have hsum : (2 ^ (m - 64) - 1) * 18446744073709551616 + (2 ^ (min 64 m) - 1) = 2 ^ m - 1 := by
    rcases Nat.le_total m 64 with h64 | h64
    · rw [show m - 64 = 0 by omega, show min 64 m = m by omega]; simp
    · obtain ⟨d, rfl⟩ := Nat.exists_eq_add_of_le h64
      have e : (18446744073709551616 : Nat) = 2 ^ 64 := by decide
      rw [show 64 + d - 64 = d by omega, show min 64 (64 + d) = 64 by omega, Nat.pow_add, ← e]
      have := Nat.two_pow_pos d
      generalize 2 ^ d = D at *
      omega
  refine ⟨last_sum X Y hsum, ⟨by omega, by omega⟩, ⟨by omega, by omega⟩, fun hs => ?_⟩
  obtain ⟨e1, e2⟩ := hf.2.2 hs
  subst hs
  have hm32 : m ≤ 32 := by unfold lenA at hm; simp at hm; omega
  have k3 : (2 : Nat) ^ (min 64 m) ∣ 4294967296 := by
    rw [show (4294967296 : Nat) = 2 ^ 32 by decide]; exact Nat.pow_dvd_pow 2 (by omega)
  have b3 : Y + 2 ^ (min 64 m) ≤ 4294967296 := dvd_gap d2 k3 (by omega)
  rw [show m - 64 = 0 by omega]
  omega
theorem low_four : lowM (min 64 (lenA false).toNat) = 4294967295 ∧ lowM ((lenA false).toNat - 64) = 0 ∧ 2 ^ lenN false = 4294967296 := by decide +kernel
theorem low_six : lowM (min 64 (lenA true).toNat) = 18446744073709551615 ∧ lowM ((lenA true).toNat - 64) = 18446744073709551615 ∧ 2 ^ lenN true = 340282366920938463463374607431768211456 := by decide +kernel
theorem end_num {s : Bool} {h l : Int} (hf : AddrFine s h l) : endA s h l = decide (nOf h l + 1 = 2 ^ lenN s) := by
  obtain ⟨h1, h2, h3⟩ := hf
  unfold endA nOf
  cases s
  · obtain ⟨h4, h5⟩ := h3 rfl
    obtain ⟨e1, e2, e3⟩ := low_four
    rw [e1, e2, e3, Bool.eq_iff_iff]
    simp only [Bool.and_eq_true, decide_eq_true_eq]
    omega
  · obtain ⟨e1, e2, e3⟩ := low_six
    rw [e1, e2, e3, Bool.eq_iff_iff]
    simp only [Bool.and_eq_true, decide_eq_true_eq]
    omega
theorem nx_num {s : Bool} {h l : Int} (hf : AddrFine s h l) (he : endA s h l = false) : nOf (nxH h l) (nxL l) = nOf h l + 1 ∧ AddrFine s (nxH h l) (nxL l) := by
  rw [end_num hf] at he
  obtain ⟨h1, h2, h3⟩ := hf
  unfold nxH nxL nOf AddrFine at *
  simp only [decide_eq_false_iff_not] at he
  cases s
  · obtain ⟨h4, h5⟩ := h3 rfl
    obtain ⟨-, -, e3⟩ := low_four
    rw [e3] at he
    refine ⟨?_, ?_, ?_, fun _ => ?_⟩ <;> (split <;> omega)
  · obtain ⟨-, -, e3⟩ := low_six
    rw [e3] at he
    refine ⟨?_, ?_, ?_, fun e => by cases e⟩ <;> (split <;> omega)
theorem fine_num {s : Bool} {h l : Int} (hf : AddrFine s h l) : nOf h l < 2 ^ lenN s := by
  obtain ⟨h1, h2, h3⟩ := hf
  unfold nOf
  cases s
  · obtain ⟨h4, h5⟩ := h3 rfl
    rw [low_four.2.2]
    omega
  · rw [low_six.2.2]
    omega
end Go.Proofs.YtcmfkheohhfpiaaGreatDoor
