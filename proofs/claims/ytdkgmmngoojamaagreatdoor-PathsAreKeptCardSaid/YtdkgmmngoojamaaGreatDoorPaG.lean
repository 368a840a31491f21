/- slices.Sort and slices.Compact at numbers that the call owns; words for what is known of samples. -/
import Derived.Test.YtdkgmmngoojamaaGreatDoorPaF
import Derived.Test.YtdkgmmngoojamaaGreatDoorPaD
import Derived.Sort.OwnSortedInts
import Derived.Lib.OwnBridge
import Derived.Lib.RowBridge
namespace Go.Hw
open Go.Lib Go.Sort

/-! ### numbers in order, each once -/
theorem compact_spec (zs : List Int) (hs : zs.Pairwise (· ≤ ·)) : (compact zs).Pairwise (· < ·) ∧ ∀ x ∈ compact zs, x ∈ zs := by
  have hget : ∀ j, (h : j < zs.length) → zs.toArray[j]! = zs[j] := fun j h => by simp [getElem!_pos, h]
  have : ∀ m, m ≤ zs.length → (compactUpTo zs.toArray m).Pairwise (· < ·) ∧ (∀ x ∈ compactUpTo zs.toArray m, x ∈ zs) ∧ ∀ x ∈ compactUpTo zs.toArray m, 0 < m ∧ x ≤ zs.toArray[m - 1]! := by
    intro m
    induction m with
    | zero => intro _; simp [compactUpTo]
    | succ m ih =>
      intro hm
      obtain ⟨h1, h2, h3⟩ := ih (by omega)
      rw [compactUpTo_succ]
      have hmm : zs.toArray[m]! ∈ zs := by rw [hget m (by omega)]; exact List.getElem_mem _
      have hle : 0 < m → zs.toArray[m - 1]! ≤ zs.toArray[m]! := fun h0 => by
        rw [hget (m - 1) (by omega), hget m (by omega)]
        exact List.pairwise_iff_getElem.1 hs (m - 1) m (by omega) (by omega) (by omega)
      by_cases hk : keeps zs.toArray m = true
      · rw [if_pos hk]
        have hlt : ∀ x ∈ compactUpTo zs.toArray m, x < zs.toArray[m]! := fun x hx => by
          obtain ⟨h0, h4⟩ := h3 x hx
          have hne : zs.toArray[m]! ≠ zs.toArray[m - 1]! := by
            unfold keeps at hk
            rcases of_decide_eq_true hk with e | e
            · omega
            · exact e
          have := hle h0
          omega
        refine ⟨List.pairwise_append.2 ⟨h1, by simp, fun a ha b hb => ?_⟩, fun x hx => ?_, fun x hx => ⟨by omega, ?_⟩⟩
        · simp only [List.mem_singleton] at hb
          rw [hb]; exact hlt a ha
        · rcases List.mem_append.1 hx with hx | hx
          · exact h2 x hx
          · simp only [List.mem_singleton] at hx
            rw [hx]; exact hmm
        · rw [Nat.add_sub_cancel]
          rcases List.mem_append.1 hx with hx | hx
          · exact Int.le_of_lt (hlt x hx)
          · simp only [List.mem_singleton] at hx
            rw [hx]; exact Int.le_refl _
      · rw [if_neg hk, List.append_nil]
        refine ⟨h1, h2, fun x hx => ⟨by omega, ?_⟩⟩
        rw [Nat.add_sub_cancel]
        obtain ⟨h0, h4⟩ := h3 x hx
        have := hle h0
        omega
  obtain ⟨h1, h2, _⟩ := this zs.length (Nat.le_refl _)
  exact ⟨h1, h2⟩
theorem sorted_ms (zs : List Int) : (zs.mergeSort fun x y => decide (x ≤ y)).Pairwise (· ≤ ·) := by
  have := List.pairwise_mergeSort (le := fun x y : Int => decide (x ≤ y)) (fun a b c h k => by simp at *; omega) (fun a b => by simp; omega) zs
  exact this.imp fun h => by simpa using h

/-! ### what is known of samples -/
def lastP (ys : List Smp) (p : ByteArray) : Option Smp := ys.foldl (fun o y => if y.path = p then some y else o) none
theorem lastP_snoc (ys : List Smp) (y : Smp) (p : ByteArray) : lastP (ys ++ [y]) p = if y.path = p then some y else lastP ys p := by
  unfold lastP
  rw [List.foldl_append]
  rfl
theorem lastP_mem (ys : List Smp) (p : ByteArray) (s : Smp) : lastP ys p = some s → s ∈ ys ∧ s.path = p := by
  unfold lastP
  suffices ∀ o, ys.foldl (fun o y => if y.path = p then some y else o) o = some s → (s ∈ ys ∧ s.path = p) ∨ o = some s by
    intro h
    rcases this none h with h | h
    · exact h
    · cases h
  induction ys with
  | nil => intro o h; exact .inr h
  | cons y ys ih =>
    intro o h
    rw [List.foldl_cons] at h
    rcases ih _ h with ⟨h1, h2⟩ | h1
    · exact .inl ⟨List.mem_cons_of_mem _ h1, h2⟩
    · split at h1
      · rename_i hp
        injection h1 with h1
        subst h1
        exact .inl ⟨by simp, hp⟩
      · exact .inr h1
/-- The samples rise. -/
def SmpRises (xs : List Smp) : Prop := ∀ i, i + 1 < xs.length → (xs.getD i noSmp).at_ ≤ (xs.getD (i + 1) noSmp).at_
theorem SmpRises.le {l : List Smp} (h : SmpRises l) {i : Nat} : ∀ d, i + d < l.length → (l.getD i noSmp).at_ ≤ (l.getD (i + d) noSmp).at_
  | 0, _ => Int.le_refl _
  | d + 1, hl => Int.le_trans (h.le d (by omega)) (h (i + d) (by omega))
theorem last_eq {xs : List Smp} (h : SmpRises xs) {i : Nat} (hi : i ≤ xs.length) {t : Int} (hb : ∀ j, j < i → (xs.getD j noSmp).at_ ≤ t) (ha : i < xs.length → t < (xs.getD i noSmp).at_) (p : ByteArray) : lastOf xs p t = lastP (xs.take i) p := by
  unfold lastOf lastP
  conv => lhs; rw [← List.take_append_drop i xs]
  rw [List.foldl_append]
  have h1 : ∀ o, (xs.drop i).foldl (fun o y => if y.path = p ∧ y.at_ ≤ t then some y else o) o = o := by
    have hd : ∀ y ∈ xs.drop i, t < y.at_ := by
      intro y hy
      obtain ⟨k, hk, e⟩ := List.getElem_of_mem hy
      simp at hk
      have h2 := h.le (i := i) k (by omega)
      have h3 := ha (by omega)
      have h4 : xs.getD (i + k) noSmp = y := by
        rw [List.getD_eq_getElem?_getD, List.getElem?_eq_getElem (by omega)]
        simpa using e
      rw [h4] at h2
      omega
    generalize xs.drop i = l at hd
    intro o
    induction l generalizing o with
    | nil => rfl
    | cons y l ih =>
      rw [List.foldl_cons, if_neg (by have := hd y (by simp); omega)]
      exact ih (fun z hz => hd z (List.mem_cons_of_mem _ hz)) o
  rw [h1]
  have h2 : ∀ y ∈ xs.take i, y.at_ ≤ t := by
    intro y hy
    obtain ⟨k, hk, e⟩ := List.getElem_of_mem hy
    simp at hk
    have h4 : xs.getD k noSmp = y := by
      rw [List.getD_eq_getElem?_getD, List.getElem?_eq_getElem (by omega)]
      simpa using e
    rw [← h4]
    exact hb k (by omega)
  generalize none = o
  generalize xs.take i = l at h2
  induction l generalizing o with
  | nil => rfl
  | cons y l ih =>
    rw [List.foldl_cons, List.foldl_cons]
    have hy := h2 y (by simp)
    have e : (if y.path = p ∧ y.at_ ≤ t then some y else o) = (if y.path = p then some y else o) := by simp [hy]
    rw [e]
    exact ih _ (fun z hz => h2 z (List.mem_cons_of_mem _ hz))
theorem take_getD {xs : List Smp} {i : Nat} (h : i < xs.length) : xs.take (i + 1) = xs.take i ++ [xs.getD i noSmp] := by
  rw [List.take_succ_eq_append_getElem h, List.getD_eq_getElem?_getD, List.getElem?_eq_getElem h]
  rfl
end Go.Hw

namespace Go.Proofs.YtdkgmmngoojamaaGreatDoor
open Go.RowKit Go.Hw Go.Shelf

def IntsOwn (w : World) (base : Nat) (v : Value) (zs : List Int) : Prop := w.ownsRow base 3 1 v zs.length (zs.map (Value.int .i64))
theorem own_nil_slice {w : World} {base : Nat} {e : TypeId} {size : Nat} {v : Value} {xs : List Value} (h : w.ownsRow base e size v 0 xs) : ∃ p cap, v = .slice p 0 cap := by
  rcases h.2 with ⟨h1, _⟩ | ⟨g, cap, cur, h1, _⟩
  · exact ⟨_, _, h1⟩
  · exact ⟨_, _, h1⟩
theorem below_grown {B : Nat} {w w' : World} {base : Nat} {e : TypeId} {size : Nat} {v : Value} {n : Nat} {xs : List Value} (h : w.ownsRow base e size v n xs) (hg : w.grownBy w' v.ownBlock) (hB : B ≤ base) (hw : B ≤ w.heap.size) : Below B w w' :=
  (Below.refl _ _).grown hg hw (fun j hj => by have := (h.lt j hj).1; omega)

theorem sort_own (base : Nat) (v : Value) (zs : List Int) (w : World) (h : IntsOwn w base v zs) (hl : zs.length ≤ 1000000) :
    Calls Tryz.prog 78 #[v] w fun e w' => e = .returned (.tuple #[]) ∧ IntsOwn w' base v (zs.mergeSort fun x y => decide (x ≤ y)) ∧ w.grownBy w' v.ownBlock := by
  by_cases hz : zs = []
  · subst hz
    obtain ⟨p, cap, rfl⟩ := own_nil_slice h
    refine (Tryz.slices_Sort_int_none p cap w).mono ?_
    rintro e w' ⟨rfl, rfl⟩
    exact ⟨rfl, by simpa [IntsOwn] using h, World.grownBy.refl _ _⟩
  · have hv : v ≠ .slice none 0 0 := by
      rintro rfl
      rcases h.2 with ⟨_, h1⟩ | ⟨g, cap, cur, h1, _⟩
      · exact hz (List.eq_nil_of_length_eq_zero h1)
      · cases h1
    have h' := h
    obtain ⟨g, cap, rfl, hbg, hgl, hnc, hcm, _, hH⟩ := Go.Lib.holds_of_ownsRow h hv
    refine (Tryz.slices_Sort_int g 0 cap zs w hH hgl (by omega)).mono ?_
    rintro e w' ⟨rfl, n, os, rfl⟩
    rcases h'.2 with ⟨h1, _⟩ | ⟨g', cap', cur, e0, hb, hg, hn, hm, hs, _⟩
    · cases h1
    · injection e0 with e1 _ e3
      injection e1 with e1
      injection e1 with e1
      subst e1; subst e3
      refine ⟨rfl, ?_, grownBy_sortedI _⟩
      unfold IntsOwn
      have hl2 : (zs.mergeSort fun x y => decide (x ≤ y)).length = zs.length := List.length_mergeSort _
      have := ownsRow_sortedI (w := w) (n := n) (os := os) hl2 hb hg hn hm hs
      rw [hl2]
      exact this
theorem compact_own (base : Nat) (v : Value) (zs : List Int) (w : World) (h : IntsOwn w base v zs) (hl : zs.length ≤ 1000000) :
    Calls Tryz.prog 79 #[v] w fun e w' => ∃ v', e = .returned v' ∧ IntsOwn w' base v' (Go.Lib.compact zs) ∧ w.grownBy w' v.ownBlock ∧ v'.ownBlock = v.ownBlock := by
  by_cases hz : zs = []
  · subst hz
    obtain ⟨p, cap, rfl⟩ := own_nil_slice h
    refine (Tryz.slices_Compact_int_empty p cap w).mono ?_
    rintro e w' ⟨rfl, rfl⟩
    exact ⟨_, rfl, h, World.grownBy.refl _ _, rfl⟩
  · have hv : v ≠ .slice none 0 0 := by
      rintro rfl
      rcases h.2 with ⟨_, h1⟩ | ⟨g, cap, cur, h1, _⟩
      · exact hz (List.eq_nil_of_length_eq_zero h1)
      · cases h1
    have h' := h
    obtain ⟨g, cap, rfl, hbg, hgl, hnc, hcm, _, hH⟩ := Go.Lib.holds_of_ownsRow h hv
    refine (Tryz.slices_Compact_int g 0 cap zs w hH (by omega) (by omega)).mono ?_
    rintro e w' ⟨rfl, q, rfl⟩
    have hle := Go.Lib.compact_length_le zs
    have h1 := Go.Lib.ownsRow_putRow (q := q) (ys := Go.Lib.compact zs ++ List.replicate (zs.length - (Go.Lib.compact zs).length) 0) h' (by simp; omega) hle
    rw [List.take_left] at h1
    refine ⟨_, rfl, h1, ?_, rfl⟩
    have := grownBy_sortedI (w := w) (g := g) (n := q) (os := #[]) (Go.Lib.compact zs ++ List.replicate (zs.length - (Go.Lib.compact zs).length) 0).toArray
    rwa [Go.Sort.grow_empty] at this
end Go.Proofs.YtdkgmmngoojamaaGreatDoor
