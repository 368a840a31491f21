/- name.BackTo: the parts ahead of the loop. -/
import Derived.Test.YtompamkhjikjlaaGreatDoorBaE
import Derived.Sort.OwnSorted
namespace Go.Proofs.YtompamkhjikjlaaGreatDoor
open Go.RowKit Go.Hw Go.Shelf Go.Sort

/-- strings.Split's row, turned about by slices.Reverse. -/
def RowT (xs : List (List UInt8)) (w0 : World) : World := w0.alloc (.cells ((xs.map toB).map Value.string).toArray 9)
theorem rowT_holds (xs : List (List UInt8)) (w : World) : Sort.Holds encStr (RowT xs w) w.heap.size 0 xs.toArray := by
  intro j hj
  have hj' : j < xs.length := by simpa using hj
  have hh : (RowT xs w).heap[w.heap.size]? = some (.cells ((xs.map toB).map Value.string).toArray 9 (0, 0)) := heap_alloc_new _ _
  constructor
  · simp [World.cell?, hh, hj', encStr, toB]
  · simp [World.frozen?, hh]
theorem rev_any (xs : List (List UInt8)) (hx : xs.length ≤ 1000) (w : World) :
    Calls Tryz.prog 15 #[.slice (some ⟨w.heap.size, 0, none⟩) xs.length xs.length] (RowT xs w) fun e w' => e = .returned (.tuple #[]) ∧ Below w.heap.size w w' ∧ w.heap.size < w'.heap.size ∧ ∀ (j : Nat) x, xs.reverse[j]? = some x → w'.cell? ⟨w.heap.size, j, none⟩ = some (.string (toB x)) := by
  refine (Tryz.slices_Reverse_string w.heap.size 0 xs.length xs (RowT xs w) (rowT_holds xs w) (by omega)).mono ?_
  rintro e w' ⟨rfl, n, rfl⟩
  have hg := grownBy_sorted (w := RowT xs w) (g := w.heap.size) (n := n) (os := #[]) xs.reverse.toArray
  rw [Sort.grow_empty] at hg
  have hb0 : Below w.heap.size w (RowT xs w) := (Below.refl _ _).alloc (Nat.le_refl _) _
  have hsz : (RowT xs w).heap.size = w.heap.size + 1 := by simp [RowT]
  refine ⟨rfl, hb0.grown hg hb0.size (fun k hk => by cases hk; exact Nat.le_refl _), by have := hg.size; omega, ?_⟩
  intro j x hjx
  have hj : j < xs.length := by simpa using (List.getElem?_eq_some_iff.1 hjx).1
  have hc := cell?_putRow encStr (Sort.ahead (RowT xs w) n) w.heap.size 0 xs.toArray xs.reverse.toArray (rowT_holds xs w) (by simp) j (by simpa using hj)
  rw [Nat.zero_add] at hc
  rw [hc]
  simp [encStr, toB, hjx]
/-- The two words, shifted, in the walk's spelling. -/
theorem or_add (e q n : Nat) (hn : n < 2 ^ e) (hq : 2 ^ e * q < 18446744073709551616) (hn2 : n < 18446744073709551616) : bits .or .u64 ((2 ^ e * q : Nat) : Int) (n : Int) = ((2 ^ e * q + n : Nat) : Int) := by
  rw [u64_or _ _ (by omega) (by omega) (by omega) (by omega), Int.toNat_natCast, Int.toNat_natCast, Nat.two_pow_add_eq_or_of_lt hn]
theorem mul_mod_two (e l : Nat) (he : e ≤ 64) : ∃ q, l * 2 ^ e % 18446744073709551616 = 2 ^ e * q := by
  have h1 : (18446744073709551616 : Nat) = 2 ^ (64 - e) * 2 ^ e := by rw [← Nat.pow_add, show 64 - e + e = 64 by omega]
  refine ⟨l % 2 ^ (64 - e), ?_⟩
  rw [h1, Nat.mul_mod_mul_right, Nat.mul_comm]
theorem shift_hi {e h l : Nat} (he : e ≤ 64) (hl : l < 18446744073709551616) (hh : h * 2 ^ e < 18446744073709551616) : bits .or .u64 ((h * 2 ^ e : Nat) : Int) ((l / 2 ^ (64 - e) : Nat) : Int) = ((h * 2 ^ e + l / 2 ^ (64 - e) : Nat) : Int) := by
  have h1 : (18446744073709551616 : Nat) = 2 ^ e * 2 ^ (64 - e) := by rw [← Nat.pow_add, show e + (64 - e) = 64 by omega]
  have h2 : l / 2 ^ (64 - e) < 2 ^ e := Nat.div_lt_of_lt_mul (by rw [Nat.mul_comm]; omega)
  rw [Nat.mul_comm h]
  exact or_add e h _ h2 (by rw [Nat.mul_comm]; exact hh) (Nat.lt_of_le_of_lt (Nat.div_le_self _ _) hl)
theorem shift_lo {e l n : Nat} (he : e ≤ 64) (hn : n < 2 ^ e) (hn2 : n < 18446744073709551616) : bits .or .u64 ((l * 2 ^ e % 18446744073709551616 : Nat) : Int) (n : Int) = ((l * 2 ^ e % 18446744073709551616 + n : Nat) : Int) := by
  obtain ⟨q, hq⟩ := mul_mod_two e l he
  have := Nat.mod_lt (l * 2 ^ e) (show 0 < 18446744073709551616 by omega)
  rw [hq] at this ⊢
  exact or_add e q n hn this hn2
end Go.Proofs.YtompamkhjikjlaaGreatDoor
