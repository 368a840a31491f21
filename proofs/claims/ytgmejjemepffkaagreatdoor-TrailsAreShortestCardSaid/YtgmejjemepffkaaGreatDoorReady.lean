/- lanekeep1.ready at its constants: it returns true. -/
import Derived.Test.YtgmejjemepffkaaGreatDoorParse
import Derived.Test.YtgmejjemepffkaaGreatDoorOne
import Derived.Test.YtgmejjemepffkaaGreatDoorThru2
import Derived.Test.YtgmejjemepffkaaGreatDoorOwns
import Derived.Test.YtgmejjemepffkaaGreatDoorLabel
namespace Go.Proofs.YtgmejjemepffkaaGreatDoor
open Go.RowKit Go.Hw

theorem one_fault : linksFault (oneLink.map lkOf) = 0 := by
  have hg : strGeq ⟨#[97]⟩ ⟨#[98]⟩ = false := by unfold strGeq; rw [ByteArray.toList_eq, ByteArray.toList_eq]; rfl
  have k1 : isKey ⟨#[97]⟩ = true := by decide
  have k2 : isKey ⟨#[98]⟩ = true := by decide
  have hc : linkCode (oneLink.map lkOf) 0 = 0 := by
    show (if isKey ⟨#[97]⟩ = false then (5 : Int) else if isKey ⟨#[98]⟩ = false then 5 else if strGeq ⟨#[97]⟩ ⟨#[98]⟩ then 7 else if ¬ (0 ≤ (3 : Int) ∧ (3 : Int) ≤ 1000000) then 1 else _) = 0
    rw [k1, k2, hg]; simp
  show (if 500 < 1 then (2 : Int) else ((([0] : List Nat).map (linkCode (oneLink.map lkOf))).find? (fun c => decide (c ≠ 0))).getD 0) = 0
  simp [hc]

set_option maxRecDepth 100000 in
set_option maxHeartbeats 1000000 in
theorem ready_true (w : World) :
    Calls Tryz.prog 7 #[] w fun e w' => e = .returned (.bool true) ∧ Below w.heap.size w w' := by
  go_enter Tryz.func7, Tryz.ntmps7
  go_wp2_with fail
  generalize hW : World.alloc (World.alloc (World.alloc _ _) _) _ = W
  have hB : Below w.heap.size w W := by rw [← hW]; exact (three _ _ _ _).2.2.2
  have h0 : ∃ t l, W.heap[w.heap.size]? = some (.cells #[.string ⟨#[97]⟩] t l) := by rw [← hW]; exact ⟨_, _, (three _ _ _ _).1⟩
  have h1 : ∃ t l, W.heap[w.heap.size + 1]? = some (.cells #[.string ⟨#[97]⟩] t l) := by rw [← hW]; exact ⟨_, _, (three _ _ _ _).2.1⟩
  have h2 : ∃ t l, W.heap[w.heap.size + 1 + 1]? = some (.cells #[.string ⟨#[116]⟩, .slice (some ⟨w.heap.size + 1, 0, none⟩) 1 1] t l) := by rw [← hW]; exact ⟨_, _, (three _ _ _ _).2.2.1⟩
  clear hW
  obtain ⟨_, _, h0⟩ := h0
  obtain ⟨_, _, h1⟩ := h1
  obtain ⟨_, _, h2⟩ := h2
  have lt : w.heap.size + 1 + 1 < W.heap.size := Nat.lt_of_not_le fun h => by rw [Array.getElem?_eq_none h] at h2; cases h2
  refine Calls.mono (owns_ready w.heap.size (w.heap.size + 1 + 1) (w.heap.size + 1) W (by omega) lt (by omega) (cell_of h0 0) (cell_of h2 0) (cell_of h2 1) (cell_of h1 0)) ?_
  rintro _ V ⟨rfl, hV⟩
  have HB := Lib.hid (hB.trans (hV.mono (by omega)))
  clear hB h0 h1 h2 lt hV
  go_wp2_with fail
  generalize hW : World.alloc _ _ = W2
  have hB2 : Below V.heap.size V W2 := by rw [← hW]; exact (Below.refl _ _).alloc (Nat.le_refl _) _
  have h0 : ∃ t l, W2.heap[V.heap.size]? = some (.cells #[.string ⟨#[97]⟩, .string ⟨#[98]⟩, .int .i64 3] t l) := by rw [← hW]; exact ⟨_, _, heap_new _ _⟩
  clear hW
  obtain ⟨_, _, h0⟩ := h0
  have lt : V.heap.size < W2.heap.size := Nat.lt_of_not_le fun h => by rw [Array.getElem?_eq_none h] at h0; cases h0
  have hL : LksAt W2 W2.heap.size (some ⟨V.heap.size, 0, none⟩) (oneLink.map lkOf) := by
    intro i hi
    have : i = 0 := by simp [oneLink] at hi; omega
    subst this
    exact ⟨_, _, rfl, lt, cell_of h0 0, cell_of h0 1, cell_of h0 2⟩
  have hs : ∀ i, ((oneLink.map lkOf).getD i noLk).a.size ≤ maxLen ∧ ((oneLink.map lkOf).getD i noLk).b.size ≤ maxLen := by
    intro i
    rcases i with _ | i
    · exact ⟨by decide, by decide⟩
    · exact ⟨show noLk.a.size ≤ maxLen by decide, show noLk.b.size ≤ maxLen by decide⟩
  have hf : linksFault (oneLink.map lkOf) = 0 := one_fault
  refine Calls.mono (throughX_any (some ⟨V.heap.size, 0, none⟩) 1 oneLink ⟨#[98]⟩ ⟨#[97]⟩ W2 hL hf (by decide) (by decide) (by decide) (by decide) hs) ?_
  rintro _ V2 ⟨hb, ⟨rfl, hno⟩ | ⟨v, ts, n, rfl, how, htr, hsh, hle⟩⟩
  · exact absurd one_ab (hno _ _)
  obtain ⟨rfl, hlen⟩ := one_len hsh htr
  rw [hlen] at how
  have HB2 := Lib.hid (HB.out.trans ((hB2.mono (by have := HB.out.size; omega)).trans (hb.mono (by have := HB.out.size; omega))))
  clear hb htr hsh hle hL hs hf h0 lt hB2 HB
  go_wp2_with fail
  refine Calls.mono (parse_name V2) ?_
  rintro _ V3 ⟨rfl, h3⟩
  simp only [condName, condCells]
  go_upto_region 4 with (fail)
  generalize hW : World.alloc _ _ = W4
  have h4 : Below V3.heap.size V3 W4 := by rw [← hW]; exact (Below.refl _ _).alloc (Nat.le_refl _) _
  have h5 : ∃ t l, W4.heap[V3.heap.size]? = some (.cells condCells t l) := by rw [← hW]; exact ⟨_, _, heap_new _ _⟩
  clear hW
  obtain ⟨_, _, h5⟩ := h5
  have lt4 : V3.heap.size < W4.heap.size := Nat.lt_of_not_le fun h => by rw [Array.getElem?_eq_none h] at h5; cases h5
  have hv : ∃ g cap, v = .slice (some ⟨g, 0, none⟩) 2 cap := by
    obtain ⟨-, ⟨-, h⟩ | ⟨g, cap, cur, hv, -⟩⟩ := how
    · cases h
    · exact ⟨g, cap, hv⟩
  obtain ⟨gv, cv, rfl⟩ := hv
  have c1 := cell_of h5 1
  simp only [condCells, List.getElem?_toArray, List.getElem?_cons_zero, List.getElem?_cons_succ] at c1
  have HB4 := Lib.hid (HB2.out.trans ((h3.mono (by have := HB2.out.size; omega)).trans (h4.mono (by have := HB2.out.size; have := h3.size; omega))))
  have LT := Lib.hid lt4
  clear how h5 lt4 HB2 h3 h4 hlen
  go_wp2_with fail
  refine Calls.mono (label_ready W4) ?_
  rintro _ V5 ⟨rfl, h5⟩
  have c2 := (h5.cell (p := ⟨V3.heap.size, 1, none⟩) LT.out).trans c1
  have HB5 := Lib.hid (HB4.out.trans (h5.mono HB4.out.size))
  clear c1 HB4 LT h5
  have s1 : ((⟨#[97, 45, 98]⟩ : ByteArray).toList == (⟨#[97, 45, 98]⟩ : ByteArray).toList) = true := by simp
  have s2 : ((⟨#[97]⟩ : ByteArray).toList == (⟨#[97]⟩ : ByteArray).toList) = true := by simp
  go_wp2_with fail
  go_ret
  exact ⟨rfl, HB5.out⟩
end Go.Proofs.YtgmejjemepffkaaGreatDoor
