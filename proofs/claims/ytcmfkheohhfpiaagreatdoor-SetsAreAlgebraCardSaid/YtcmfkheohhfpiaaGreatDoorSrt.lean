/- slices.Sort at numbers that the call owns. -/
import Derived.Test.YtcmfkheohhfpiaaGreatDoorReA
import Derived.Test.YtcmfkheohhfpiaaGreatDoorLk
import Derived.Test.YtcmfkheohhfpiaaGreatDoorShelf
import Derived.Sort.OwnSortedInts
import Derived.Lib.OwnBridge
import Derived.Lib.RowBridge
namespace Go.Proofs.YtcmfkheohhfpiaaGreatDoor
open Go.RowKit Go.Hw
theorem own_reads {w : World} {base : Nat} {e : TypeId} {size : Nat} {v : Value} {n : Nat} {xs : List Value} (h : w.ownsRow base e size v n xs) :
    ∃ A cap, v = .slice A n cap ∧ ∀ j u, xs[j]? = some u → ∃ g, A = some ⟨g, 0, none⟩ ∧ g < w.heap.size ∧ w.cell? ⟨g, j, none⟩ = some u := by
  obtain ⟨h1, ⟨h2, h0⟩ | ⟨g, cap, cur, h3, h4, h5, h6⟩⟩ := h
  · subst h2
    subst h0
    refine ⟨none, 0, rfl, fun j u hu => ?_⟩
    have : xs = [] := List.eq_nil_of_length_eq_zero (by simpa using h1)
    subst this
    simp at hu
  · subst h3
    have hlt := (Array.getElem?_eq_some_iff.1 h5).1
    refine ⟨some ⟨g, 0, none⟩, cap, rfl, fun j u hu => ⟨g, rfl, hlt, ?_⟩⟩
    have := World.ownsRow.cells (g := g) (⟨h1, .inr ⟨g, cap, cur, rfl, h4, h5, h6⟩⟩ : w.ownsRow base e size _ n xs) rfl j u hu
    have hadd : (⟨g, 0, none⟩ : Addr).add j = ⟨g, j, none⟩ := by unfold Addr.add; split <;> simp_all
    rwa [hadd] at this
end Go.Proofs.YtcmfkheohhfpiaaGreatDoor

namespace Go.Proofs.YtcmfkheohhfpiaaGreatDoor
open Go.RowKit Go.Hw Go.Shelf

def IntsOwn (w : World) (base : Nat) (v : Value) (zs : List Int) : Prop := w.ownsRow base 3 1 v zs.length (zs.map (Value.int .i64))
theorem own_nil_slice {w : World} {base : Nat} {e : TypeId} {size : Nat} {v : Value} {xs : List Value} (h : w.ownsRow base e size v 0 xs) : ∃ p cap, v = .slice p 0 cap := by
  rcases h.2 with ⟨h1, _⟩ | ⟨g, cap, cur, h1, _⟩
  · exact ⟨_, _, h1⟩
  · exact ⟨_, _, h1⟩
theorem sort_own (base : Nat) (v : Value) (zs : List Int) (w : World) (h : IntsOwn w base v zs) (hl : zs.length ≤ 1000000) :
    Calls Tryz.prog 124 #[v] w fun e w' => e = .returned (.tuple #[]) ∧ IntsOwn w' base v (zs.mergeSort fun x y => decide (x ≤ y)) ∧ w.grownBy w' v.ownBlock := by
  by_cases hz : zs = []
  · subst hz
    obtain ⟨p, cap, rfl⟩ := own_nil_slice h
    refine (Tryz.slices_Sort_int_none p cap w).mono ?_
    rintro e w' ⟨rfl, rfl⟩
    exact ⟨rfl, by simpa [IntsOwn] using h, World.grownBy.refl _ _⟩
  · have hv : v ≠ .slice none 0 0 := by
      rintro rfl
      rcases h.2 with ⟨_, h1⟩ | ⟨g, cap, cur, h1, _⟩
      · exact hz (List.eq_nil_of_length_eq_zero h1)
      · cases h1
    have h' := h
    obtain ⟨g, cap, rfl, hbg, hgl, hnc, hcm, _, hH⟩ := Go.Lib.holds_of_ownsRow h hv
    refine (Tryz.slices_Sort_int g 0 cap zs w hH hgl (by omega)).mono ?_
    rintro e w' ⟨rfl, n, os, rfl⟩
    rcases h'.2 with ⟨h1, _⟩ | ⟨g', cap', cur, e0, hb, hg, hn, hm, hs, _⟩
    · cases h1
    · injection e0 with e1 _ e3
      injection e1 with e1
      injection e1 with e1
      subst e1; subst e3
      refine ⟨rfl, ?_, grownBy_sortedI _⟩
      unfold IntsOwn
      have hl2 : (zs.mergeSort fun x y => decide (x ≤ y)).length = zs.length := List.length_mergeSort _
      have := ownsRow_sortedI (w := w) (n := n) (os := os) hl2 hb hg hn hm hs
      rw [hl2]
      exact this
/-- Numbers in memory, below block B. -/
def IntsAt (w : World) (B : Nat) (A : Option Addr) (ts : List Int) : Prop := ∀ j, j < ts.length → ∃ g, A = some ⟨g, 0, none⟩ ∧ g < B ∧ w.cell? ⟨g, j, none⟩ = some (.int .i64 (ts.getD j 0))
theorem ints_at {w : World} {base : Nat} {v : Value} {zs : List Int} (h : IntsOwn w base v zs) : ∃ A cap, v = .slice A zs.length cap ∧ IntsAt w w.heap.size A zs ∧ ∀ g, A = some ⟨g, 0, none⟩ → v.ownBlock = some g := by
  obtain ⟨A, cap, rfl, hc⟩ := own_reads h
  refine ⟨A, cap, rfl, fun j hj => ?_, fun g hg => by rw [hg]; rfl⟩
  obtain ⟨g, h1, h2, h3⟩ := hc j (.int .i64 (zs.getD j 0)) (by rw [List.getElem?_map, List.getD_eq_getElem?_getD, List.getElem?_eq_getElem hj]; rfl)
  exact ⟨g, h1, h2, h3⟩
end Go.Proofs.YtcmfkheohhfpiaaGreatDoor
