/- Compacted rows: what slices.Compact and CompactFunc leave. -/
import Derived.Test.YtpbcbgoenoolfaaGreatDoorRwB
namespace Go.Hw
/-- What is left of the first n elements: each that is not like the one ahead of it. -/
def dedT {α : Type} (c : α → α → Bool) (d : α) (L : List α) : Nat → List α
  | 0 => []
  | 1 => [L.getD 0 d]
  | n + 2 => dedT c d L (n + 1) ++ (if c (L.getD (n + 1) d) (L.getD n d) then [] else [L.getD (n + 1) d])
theorem dedT_len {α : Type} (c : α → α → Bool) (d : α) (L : List α) : ∀ n, (dedT c d L n).length ≤ n
  | 0 => Nat.le_refl _
  | 1 => Nat.le_refl _
  | n + 2 => by
    have := dedT_len c d L (n + 1)
    unfold dedT
    split <;> simp <;> omega
theorem dedT_all {α : Type} {c : α → α → Bool} {d : α} {L : List α} : ∀ n, n ≤ L.length → (∀ j, j + 1 < n → c (L.getD (j + 1) d) (L.getD j d) = false) → dedT c d L n = L.take n
  | 0, _, _ => by simp [dedT]
  | 1, h, _ => by
    rw [dedT, List.take_succ_eq_append_getElem (by omega), List.getD_eq_getElem?_getD, List.getElem?_eq_getElem (by omega)]
    simp
  | n + 2, h, hc => by
    rw [dedT, dedT_all (n + 1) (by omega) (fun j hj => hc j (by omega)), hc n (by omega), if_neg (by decide), List.take_succ_eq_append_getElem (i := n + 1) (by omega), List.getD_eq_getElem?_getD, List.getElem?_eq_getElem (by omega)]
    rfl
theorem dedT_mem {α : Type} {c : α → α → Bool} {d : α} {L : List α} : ∀ n, n ≤ L.length → ∀ x ∈ dedT c d L n, ∃ j, j < n ∧ x = L.getD j d
  | 0, _, x, hx => by simp [dedT] at hx
  | 1, _, x, hx => by simp [dedT] at hx; exact ⟨0, by omega, hx⟩
  | n + 2, h, x, hx => by
    rw [dedT] at hx
    rcases List.mem_append.1 hx with hx | hx
    · obtain ⟨j, hj, e⟩ := dedT_mem (n + 1) (by omega) x hx
      exact ⟨j, by omega, e⟩
    · split at hx
      · simp at hx
      · simp at hx; exact ⟨n + 1, by omega, hx⟩
/-- The last one is left, or one that is alike. -/
theorem dedT_last {α : Type} {c : α → α → Bool} {d : α} {L : List α} (hr : ∀ x, c x x = true) (ht : ∀ x y z, c x y = true → c y z = true → c x z = true) : ∀ n, ∃ x ∈ dedT c d L (n + 1), c (L.getD n d) x = true
  | 0 => ⟨L.getD 0 d, by simp [dedT], hr _⟩
  | n + 1 => by
    obtain ⟨x, hx, hc⟩ := dedT_last hr ht n
    by_cases h : c (L.getD (n + 1) d) (L.getD n d) = true
    · exact ⟨x, by rw [dedT]; exact List.mem_append.2 (.inl hx), ht _ _ _ h hc⟩
    · refine ⟨L.getD (n + 1) d, ?_, hr _⟩
      rw [dedT, if_neg h]
      simp
theorem dedT_mono {α : Type} {c : α → α → Bool} {d : α} {L : List α} {x : α} : ∀ {m n : Nat}, m ≤ n → x ∈ dedT c d L m → x ∈ dedT c d L n
  | m, 0, h, hx => by rw [Nat.le_zero.1 h] at hx; exact hx
  | m, 1, h, hx => by
    rcases Nat.lt_or_ge m 1 with h1 | h1
    · rw [show m = 0 by omega] at hx; simp [dedT] at hx
    · rw [show m = 1 by omega] at hx; exact hx
  | m, n + 2, h, hx => by
    rcases Nat.lt_or_ge m (n + 2) with h1 | h1
    · rw [dedT]
      exact List.mem_append.2 (.inl (dedT_mono (m := m) (n := n + 1) (by omega) hx))
    · rw [show m = n + 2 by omega] at hx; exact hx
/-- Each element is left, or one that is alike. -/
theorem dedT_keeps {α : Type} {c : α → α → Bool} {d : α} {L : List α} (hr : ∀ x, c x x = true) (ht : ∀ x y z, c x y = true → c y z = true → c x z = true) {x : α} (hx : x ∈ L) : ∃ y ∈ dedT c d L L.length, c x y = true := by
  obtain ⟨i, hi, rfl⟩ := List.getElem_of_mem hx
  obtain ⟨y, hy, hc⟩ := dedT_last (c := c) (d := d) (L := L) hr ht i
  refine ⟨y, dedT_mono (by omega) hy, ?_⟩
  rw [List.getD_eq_getElem?_getD, List.getElem?_eq_getElem hi] at hc
  exact hc
/-- What was in order is then in strict order. -/
theorem dedT_pair {α : Type} {c : α → α → Bool} {d : α} {L : List α} {R S : α → α → Prop} (hS : ∀ i j, i < j → j < L.length → S (L.getD i d) (L.getD j d)) (hRS : ∀ x y z, (x = y ∨ S x y) → R y z → R x z) (hc : ∀ x y, S x y → c y x = false → R x y) : ∀ n, n ≤ L.length → (dedT c d L n).Pairwise R
  | 0, _ => by simp [dedT]
  | 1, _ => by simp [dedT]
  | n + 2, h => by
    have ih := dedT_pair hS hRS hc (n + 1) (by omega)
    rw [dedT]
    by_cases hcc : c (L.getD (n + 1) d) (L.getD n d) = true
    · rw [if_pos hcc, List.append_nil]; exact ih
    · rw [if_neg hcc]
      refine List.pairwise_append.2 ⟨ih, by simp, fun x hx y hy => ?_⟩
      simp at hy
      subst hy
      obtain ⟨j, hj, rfl⟩ := dedT_mem (n + 1) (by omega) x hx
      have h1 := hc _ _ (hS n (n + 1) (by omega) (by omega)) (by simpa using hcc)
      rcases Nat.lt_or_ge j n with h2 | h2
      · exact hRS _ _ _ (.inr (hS j n h2 (by omega))) h1
      · rw [show j = n by omega]; exact h1
end Go.Hw
