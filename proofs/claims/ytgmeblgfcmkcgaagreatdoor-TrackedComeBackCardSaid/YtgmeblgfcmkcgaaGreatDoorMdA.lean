/- The plain law of medians: at most half of some numbers lie on each side, and numbers that are moved have it moved. -/
import Derived.WalkKit
namespace Go.Hw

/-- Numbers in order. -/
def srt (l : List Int) : List Int := l.mergeSort (fun x y => decide (x ≤ y))
theorem srt_sorted (l : List Int) : (srt l).Pairwise (· ≤ ·) := by
  have := List.pairwise_mergeSort (le := fun x y : Int => decide (x ≤ y)) (fun a b c h k => by simp at *; omega) (fun a b => by simp; omega) l
  exact this.imp fun h => by simpa using h
theorem srt_perm (l : List Int) : (srt l).Perm l := List.mergeSort_perm l _
theorem srt_length (l : List Int) : (srt l).length = l.length := List.length_mergeSort l
theorem srt_uniq {l s : List Int} (hs : s.Pairwise (· ≤ ·)) (hp : s.Perm l) : srt l = s :=
  ((srt_perm l).trans hp.symm).eq_of_pairwise (le := fun x y : Int => x ≤ y) (fun _ _ _ _ h k => Int.le_antisymm h k) (srt_sorted l) hs
/-- Twice the median. -/
def med (l : List Int) : Int := (srt l).getD ((l.length - 1) / 2) 0 + (srt l).getD (l.length / 2) 0
theorem getD_srt {l : List Int} {i : Nat} (h : i < l.length) : (srt l).getD i 0 = (srt l)[i]'(by rw [srt_length]; exact h) := by
  rw [List.getD_eq_getElem?_getD, List.getElem?_eq_getElem (by rw [srt_length]; exact h)]; rfl
theorem srt_le {l : List Int} {i j : Nat} (hij : i ≤ j) (hj : j < l.length) : (srt l).getD i 0 ≤ (srt l).getD j 0 := by
  rw [getD_srt (by omega), getD_srt hj]
  rcases Nat.lt_or_eq_of_le hij with h | rfl
  · exact List.pairwise_iff_getElem.1 (srt_sorted l) i j (by rw [srt_length]; omega) (by rw [srt_length]; omega) h
  · exact Int.le_refl _
theorem count_srt (l : List Int) (p : Int → Bool) : l.countP p = (srt l).countP p := ((srt_perm l).countP_eq p).symm
theorem countP_zero {l : List Int} {p : Int → Bool} (h : ∀ i, i < l.length → p (l.getD i 0) = false) : l.countP p = 0 := by
  rw [List.countP_eq_zero]
  intro a ha
  obtain ⟨i, hi, rfl⟩ := List.getElem_of_mem ha
  have := h i hi
  rw [List.getD_eq_getElem?_getD, List.getElem?_eq_getElem hi] at this
  simpa using this
/-- At most half of them are less. -/
theorem med_below (l : List Int) (hl : 0 < l.length) : 2 * l.countP (fun n => decide (2 * n < med l)) ≤ l.length := by
  rw [count_srt]
  have hb : l.length / 2 < l.length := by omega
  have hM : med l ≤ 2 * (srt l).getD (l.length / 2) 0 := by
    unfold med
    have := srt_le (l := l) (i := (l.length - 1) / 2) (j := l.length / 2) (by omega) hb
    omega
  have hsplit : (srt l).countP (fun n => decide (2 * n < med l)) = ((srt l).take (l.length / 2)).countP (fun n => decide (2 * n < med l)) + ((srt l).drop (l.length / 2)).countP (fun n => decide (2 * n < med l)) := by
    rw [← List.countP_append, List.take_append_drop]
  have hz : ((srt l).drop (l.length / 2)).countP (fun n => decide (2 * n < med l)) = 0 := by
    apply countP_zero
    intro i hi
    rw [List.length_drop, srt_length] at hi
    have := srt_le (l := l) (i := l.length / 2) (j := l.length / 2 + i) (by omega) (by omega)
    rw [List.getD_eq_getElem?_getD, List.getElem?_drop, ← List.getD_eq_getElem?_getD]
    simp only [decide_eq_false_iff_not]
    omega
  have h1 : ((srt l).take (l.length / 2)).countP (fun n => decide (2 * n < med l)) ≤ l.length / 2 := by
    refine Nat.le_trans List.countP_le_length ?_
    rw [List.length_take]
    omega
  omega
/-- At most half of them are greater. -/
theorem med_above (l : List Int) (hl : 0 < l.length) : 2 * l.countP (fun n => decide (med l < 2 * n)) ≤ l.length := by
  rw [count_srt]
  have hM : 2 * (srt l).getD ((l.length - 1) / 2) 0 ≤ med l := by
    unfold med
    have := srt_le (l := l) (i := (l.length - 1) / 2) (j := l.length / 2) (by omega) (by omega)
    omega
  have hsplit : (srt l).countP (fun n => decide (med l < 2 * n)) = ((srt l).take ((l.length - 1) / 2 + 1)).countP (fun n => decide (med l < 2 * n)) + ((srt l).drop ((l.length - 1) / 2 + 1)).countP (fun n => decide (med l < 2 * n)) := by
    rw [← List.countP_append, List.take_append_drop]
  have hz : ((srt l).take ((l.length - 1) / 2 + 1)).countP (fun n => decide (med l < 2 * n)) = 0 := by
    apply countP_zero
    intro i hi
    rw [List.length_take, srt_length] at hi
    have := srt_le (l := l) (i := i) (j := (l.length - 1) / 2) (by omega) (by omega)
    rw [List.getD_eq_getElem?_getD, List.getElem?_take, if_pos (by omega), ← List.getD_eq_getElem?_getD]
    simp only [decide_eq_false_iff_not]
    omega
  have h1 : ((srt l).drop ((l.length - 1) / 2 + 1)).countP (fun n => decide (med l < 2 * n)) ≤ l.length - ((l.length - 1) / 2 + 1) := by
    refine Nat.le_trans List.countP_le_length ?_
    rw [List.length_drop, srt_length]
    omega
  omega
/-- Numbers that are moved. -/
theorem srt_move (l : List Int) (c : Int) : srt (l.map (· + c)) = (srt l).map (· + c) := by
  refine srt_uniq ?_ ((srt_perm l).map _)
  rw [List.pairwise_map]
  exact (srt_sorted l).imp fun h => by omega
theorem med_move (l : List Int) (c : Int) (hl : 0 < l.length) : med (l.map (· + c)) = med l + 2 * c := by
  have hg : ∀ i, i < l.length → ((srt l).map (· + c)).getD i 0 = (srt l).getD i 0 + c := fun i hi => by
    rw [List.getD_eq_getElem?_getD, List.getD_eq_getElem?_getD, List.getElem?_map, List.getElem?_eq_getElem (by rw [srt_length]; exact hi)]
    rfl
  unfold med
  rw [srt_move, List.length_map, hg _ (by omega), hg _ (by omega)]
  omega
/-- How far each one is from the median, twice. -/
def offs (l : List Int) : List Int := l.map (fun n => max (2 * n - med l) (med l - 2 * n))
theorem offs_move (l : List Int) (c : Int) (hl : 0 < l.length) : offs (l.map (· + c)) = offs l := by
  unfold offs
  rw [med_move l c hl, List.map_map]
  refine List.map_congr_left fun n _ => ?_
  simp only [Function.comp]
  omega
theorem srt_mem {l : List Int} {i : Nat} (h : i < l.length) : (srt l).getD i 0 ∈ l := by
  rw [getD_srt h]
  exact (srt_perm l).mem_iff.1 (List.getElem_mem _)
/-- The median lies between two bounds. -/
theorem med_range {l : List Int} {a b : Int} (hl : 0 < l.length) (h : ∀ x ∈ l, a ≤ x ∧ x ≤ b) : 2 * a ≤ med l ∧ med l ≤ 2 * b := by
  have h1 := h _ (srt_mem (l := l) (i := (l.length - 1) / 2) (by omega))
  have h2 := h _ (srt_mem (l := l) (i := l.length / 2) (by omega))
  unfold med
  omega
end Go.Hw
