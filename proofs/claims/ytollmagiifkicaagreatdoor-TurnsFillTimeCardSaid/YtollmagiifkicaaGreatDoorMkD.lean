/- addr.CheckPrefix at a right prefix. -/
import Derived.Test.YtollmagiifkicaaGreatDoorMkB
import Derived.Test.YtollmagiifkicaaGreatDoorMkC
namespace Go.Proofs.YtollmagiifkicaaGreatDoor
open Go.RowKit Go.Hw Go.Shelf

theorem pf_parts {s : Bool} {h l b : Int} (uh : U64 h) (ul : U64 l) (hc : pfCode s h l b = 0) : addrCode s h l = 0 ∧ (0 ≤ b ∧ b ≤ lenA s) ∧ ∃ m : Nat, lenA s - b = m ∧ m ≤ 128 ∧ clr h (m - 64) = h ∧ clr l (min 64 m) = l := by
  have hl : lenA s ≤ 128 := by unfold lenA; split <;> omega
  unfold pfCode at hc
  split at hc
  · rename_i h1; exact absurd hc h1
  · rename_i h1
    split at hc
    · cases hc
    · rename_i h2
      split at hc
      · cases hc
      · rename_i h3
        have h2' : 0 ≤ b ∧ b ≤ lenA s := Decidable.not_not.1 h2
        obtain ⟨m, hm⟩ := Int.eq_ofNat_of_zero_le (show 0 ≤ lenA s - b by omega)
        have hmm : (lenA s - b).toNat = m := by omega
        rw [hmm] at h3
        have h4 : eqN (clrd (wd s h l) m) (wd s h l) = true := by
          cases e : eqN (clrd (wd s h l) m) (wd s h l)
          · exact absurd e h3
          · rfl
        have := (mask_iff (s := s) uh ul (m := m) (by omega)).1 h4
        exact ⟨Decidable.not_not.1 h1, h2', m, hm, by omega, this.1, this.2⟩

set_option maxRecDepth 100000 in
set_option maxHeartbeats 1000000 in
theorem checkPrefix_any (s : Bool) (h l b : Int) (w : World) (uh : U64 h) (ul : U64 l) (hc : pfCode s h l b = 0) :
    Calls Tryz.prog 89 #[.agg #[.bool s, .int .u64 h, .int .u64 l, .int .i64 b]] w fun e w' => e = .returned (.int .i64 0) ∧ Below w.heap.size w w' := by
  obtain ⟨ha, hr, m, hm, hm2, hc1, hc2⟩ := pf_parts uh ul hc
  have HA := Lib.hid ha
  have HM := Lib.hid hm
  have HC1 := Lib.hid hc1
  have HC2 := Lib.hid hc2
  have hin : (decide (b < 0) || decide (lenA s < b)) = false := by simp; omega
  have HIN := Lib.hid hin
  have b0 : (w.alloc (pfBox s h l b)).heap[w.heap.size]? = some (pfBox s h l b) := heap_alloc_new w _
  obtain ⟨⟨x0, x1, x2, x3⟩, -⟩ := res4 b0
  have HB := Lib.hid ((Below.refl w.heap.size w).alloc (Nat.le_refl _) (pfBox s h l b))
  have hsz : w.heap.size + 1 ≤ (w.alloc (pfBox s h l b)).heap.size := by simp
  unfold pfBox at x0 x1 x2 x3 hsz
  have hu := uh.1
  have hq := run_eq_addr 9998 s s h h l l
  have hgd := guard_addr
  rw [show (s == s && (h == h && l == l)) = true by simp] at hq
  clear b0 hc ha hm hc1 hc2 hin
  go_enter Tryz.func89, Tryz.ntmps89
  go_wp2_with fail
  generalize hW : World.alloc _ _ = W at x0 x1 x2 x3 hsz ⊢
  have HBW : Hid (Below w.heap.size w W) := Lib.hid (by rw [← hW]; exact HB.out)
  clear hW HB
  refine (checkAddr_any s h l _ hu).mono ?_
  rintro e W1 ⟨rfl, hb1⟩
  rw [HA.out]
  have x0 : W1.cell? ⟨w.heap.size, 0, none⟩ = some (.bool s) := (hb1.cell (p := ⟨w.heap.size, 0, none⟩) (by first | (simp; done) | (simp; omega) | omega)).trans (by first | assumption | (go_simp; done)); have x1 : W1.cell? ⟨w.heap.size, 1, none⟩ = some (.int .u64 h) := (hb1.cell (p := ⟨w.heap.size, 1, none⟩) (by first | (simp; done) | (simp; omega) | omega)).trans (by first | assumption | (go_simp; done)); have x2 : W1.cell? ⟨w.heap.size, 2, none⟩ = some (.int .u64 l) := (hb1.cell (p := ⟨w.heap.size, 2, none⟩) (by first | (simp; done) | (simp; omega) | omega)).trans (by first | assumption | (go_simp; done)); have x3 : W1.cell? ⟨w.heap.size, 3, none⟩ = some (.int .i64 b) := (hb1.cell (p := ⟨w.heap.size, 3, none⟩) (by first | (simp; done) | (simp; omega) | omega)).trans (by first | assumption | (go_simp; done))
  have hsz : w.heap.size + 1 ≤ W1.heap.size := (by have := hb1.size; (try simp at this); omega); have hl0 : w.heap.size < W1.heap.size := (by omega)
  have HBW : Hid (Below w.heap.size w W1) := (by first | exact Lib.hid (HBW.out.trans (hb1.mono (by omega))) | exact Lib.hid (HBW.out.drew.trans (hb1.mono (show w.heap.size ≤ W.heap.size by omega))))
  clear hb1 hu
  go_wp2_with fail
  go_region_held3 (fun w' => w'.cell? ⟨w.heap.size, 0, none⟩ = some (.bool s) ∧ w'.cell? ⟨w.heap.size, 1, none⟩ = some (.int .u64 h) ∧ w'.cell? ⟨w.heap.size, 2, none⟩ = some (.int .u64 l) ∧ w'.cell? ⟨w.heap.size, 3, none⟩ = some (.int .i64 b))
    (first | exact ⟨x0, x1, x2, x3⟩ | ((repeat' apply And.intro) <;> (first | (go_simp; done) | with_reducible assumption)))
    (first
      | (go_at_call 124; refine (spanLength_any _ _ _ _).mono ?_; rintro e W2 ⟨rfl, hb2⟩; have x0 : W2.cell? ⟨w.heap.size, 0, none⟩ = some (.bool s) := (hb2.cell (p := ⟨w.heap.size, 0, none⟩) (by first | (simp; done) | (simp; omega) | omega)).trans (by first | assumption | (go_simp; done)); have x1 : W2.cell? ⟨w.heap.size, 1, none⟩ = some (.int .u64 h) := (hb2.cell (p := ⟨w.heap.size, 1, none⟩) (by first | (simp; done) | (simp; omega) | omega)).trans (by first | assumption | (go_simp; done)); have x2 : W2.cell? ⟨w.heap.size, 2, none⟩ = some (.int .u64 l) := (hb2.cell (p := ⟨w.heap.size, 2, none⟩) (by first | (simp; done) | (simp; omega) | omega)).trans (by first | assumption | (go_simp; done)); have x3 : W2.cell? ⟨w.heap.size, 3, none⟩ = some (.int .i64 b) := (hb2.cell (p := ⟨w.heap.size, 3, none⟩) (by first | (simp; done) | (simp; omega) | omega)).trans (by first | assumption | (go_simp; done)); have hsz : w.heap.size + 1 ≤ W2.heap.size := (by have := hb2.size; (try simp at this); omega); have hl0 : w.heap.size < W2.heap.size := (by omega); have HBW : Hid (Below w.heap.size w W2) := (by first | exact Lib.hid (HBW.out.trans (hb2.mono (by omega))) | exact Lib.hid (HBW.out.drew.trans (hb2.mono (show w.heap.size ≤ W1.heap.size by omega)))))
      | (go_at_call 91; refine (outside_any _ _ _ _).mono ?_; rintro e W9 ⟨rfl, rfl⟩; rw [HIN.out]))
  go_wp2_with fail
  go_region_held3 (fun w' => w'.cell? ⟨w.heap.size, 0, none⟩ = some (.bool s) ∧ w'.cell? ⟨w.heap.size, 1, none⟩ = some (.int .u64 h) ∧ w'.cell? ⟨w.heap.size, 2, none⟩ = some (.int .u64 l) ∧ w'.cell? ⟨w.heap.size, 3, none⟩ = some (.int .i64 b))
    (first | exact ⟨x0, x1, x2, x3⟩ | ((repeat' apply And.intro) <;> (first | (go_simp; done) | with_reducible assumption)))
    (first
      | (go_at_call 95; refine (masked_any s h l b _ uh ul m HM.out hm2).mono ?_; rintro e W3 ⟨rfl, hb3⟩; rw [HC1.out, HC2.out]; have x0 : W3.cell? ⟨w.heap.size, 0, none⟩ = some (.bool s) := (hb3.cell (p := ⟨w.heap.size, 0, none⟩) (by first | (simp; done) | (simp; omega) | omega)).trans (by first | assumption | (go_simp; done)); have x1 : W3.cell? ⟨w.heap.size, 1, none⟩ = some (.int .u64 h) := (hb3.cell (p := ⟨w.heap.size, 1, none⟩) (by first | (simp; done) | (simp; omega) | omega)).trans (by first | assumption | (go_simp; done)); have x2 : W3.cell? ⟨w.heap.size, 2, none⟩ = some (.int .u64 l) := (hb3.cell (p := ⟨w.heap.size, 2, none⟩) (by first | (simp; done) | (simp; omega) | omega)).trans (by first | assumption | (go_simp; done)); have x3 : W3.cell? ⟨w.heap.size, 3, none⟩ = some (.int .i64 b) := (hb3.cell (p := ⟨w.heap.size, 3, none⟩) (by first | (simp; done) | (simp; omega) | omega)).trans (by first | assumption | (go_simp; done)); have hsz : w.heap.size + 1 ≤ W3.heap.size := (by have := hb3.size; (try simp at this); omega); have hl0 : w.heap.size < W3.heap.size := (by omega); have HBW : Hid (Below w.heap.size w W3) := (by first | exact Lib.hid (HBW.out.trans (hb3.mono (by omega))) | exact Lib.hid (HBW.out.drew.trans (hb3.mono (show w.heap.size ≤ W2.heap.size by omega))))))
  go_wp2_with fail
  go_ret
  exact ⟨rfl, HBW.out⟩
end Go.Proofs.YtollmagiifkicaaGreatDoor
