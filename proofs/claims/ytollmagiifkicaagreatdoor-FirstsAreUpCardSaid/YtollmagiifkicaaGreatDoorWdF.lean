/- Prefixes: PrefixFault of the reference. -/
import Derived.Test.YtollmagiifkicaaGreatDoorWdE
namespace Go.Proofs.YtollmagiifkicaaGreatDoor
open Go.RowKit Go.Hw

/-- What is wrong with a prefix. -/
def pfCode (s : Bool) (h l b : Int) : Int :=
  if addrCode s h l ≠ 0 then addrCode s h l
  else if ¬ (0 ≤ b ∧ b ≤ lenA s) then 1
  else if eqN (clrd (wd s h l) (lenA s - b).toNat) (wd s h l) = false then 3
  else 0

set_option maxRecDepth 100000 in
set_option maxHeartbeats 1000000 in
theorem prefixFault_any (s : Bool) (h l b : Int) (w : World) (uh : U64 h) (ul : U64 l) :
    Calls Tryz.prog 37 #[.agg #[.bool s, .int .u64 h, .int .u64 l, .int .i64 b]] w fun e w' => e = .returned (.int .i64 (pfCode s h l b)) ∧ Below w.heap.size w w' := by
  have b0 : (w.alloc (pfBox s h l b)).heap[w.heap.size]? = some (pfBox s h l b) := heap_alloc_new w _
  obtain ⟨⟨x0, x1, x2, x3⟩, -⟩ := res4 b0
  have HB := Lib.hid ((Below.refl w.heap.size w).alloc (Nat.le_refl _) (pfBox s h l b))
  have hsz : w.heap.size + 1 ≤ (w.alloc (pfBox s h l b)).heap.size := by simp
  unfold pfBox at x0 x1 x2 x3 hsz
  have hcode : Hid (pfCode s h l b = if addrCode s h l ≠ 0 then addrCode s h l else if ¬ (0 ≤ b ∧ b ≤ lenA s) then 1 else if eqN (clrd (wd s h l) (lenA s - b).toNat) (wd s h l) = false then 3 else 0) := Lib.hid rfl
  have hu := uh.1
  clear b0
  go_enter Tryz.func37, Tryz.ntmps37
  go_wp2_with fail
  generalize hW : World.alloc _ _ = W at x0 x1 x2 x3 hsz ⊢
  have HBW : Hid (Below w.heap.size w W) := Lib.hid (by rw [← hW]; exact HB.out)
  clear hW HB
  refine (addrFault_any s h l _ hu).mono ?_
  rintro e W1 ⟨rfl, hb1⟩
  have x0 : W1.cell? ⟨w.heap.size, 0, none⟩ = some (.bool s) := (hb1.cell (p := ⟨w.heap.size, 0, none⟩) (by (try simp); omega)).trans (by first | assumption | (go_simp; done)); have x1 : W1.cell? ⟨w.heap.size, 1, none⟩ = some (.int .u64 h) := (hb1.cell (p := ⟨w.heap.size, 1, none⟩) (by (try simp); omega)).trans (by first | assumption | (go_simp; done)); have x2 : W1.cell? ⟨w.heap.size, 2, none⟩ = some (.int .u64 l) := (hb1.cell (p := ⟨w.heap.size, 2, none⟩) (by (try simp); omega)).trans (by first | assumption | (go_simp; done)); have x3 : W1.cell? ⟨w.heap.size, 3, none⟩ = some (.int .i64 b) := (hb1.cell (p := ⟨w.heap.size, 3, none⟩) (by (try simp); omega)).trans (by first | assumption | (go_simp; done))
  have hsz : w.heap.size + 1 ≤ W1.heap.size := (by have := hb1.size; (try simp at this); omega); have hl0 : w.heap.size < W1.heap.size := (by omega)
  have HBW : Hid (Below w.heap.size w W1) := (by first | exact Lib.hid (HBW.out.trans (hb1.mono (by omega))) | exact Lib.hid (HBW.out.drew.trans (hb1.mono (show w.heap.size ≤ W.heap.size by omega))))
  clear hb1 hu
  by_cases hc : addrCode s h l = 0
  rotate_left
  · have hcc : (addrCode s h l != 0) = true := by simpa using hc
    have HF : Hid (pfCode s h l b = addrCode s h l) := Lib.hid (by rw [hcode.out, if_pos hc])
    clear hc hcode
    generalize addrCode s h l = ac at hcc HF ⊢
    go_wp2_with fail
    go_ret
    exact ⟨ret_eq HF.out.symm, HBW.out⟩
  have HC := Lib.hid hc
  rw [hc]
  clear hc
  have hq := run_eq_wide (clrd (wd s h l) (lenA s - b).toNat) (wd s h l)
  have hgd := guard_wide
  by_cases hr : 0 ≤ b ∧ b ≤ lenA s
  rotate_left
  · have hin : (decide (0 ≤ b) && decide (b ≤ lenA s)) = false := by
      cases hd : (decide (0 ≤ b) && decide (b ≤ lenA s))
      · rfl
      · exact absurd (by simpa using hd) hr
    have HF : Hid (pfCode s h l b = 1) := Lib.hid (by rw [hcode.out, if_neg (by rw [HC.out]; decide), if_pos hr])
    have HIN := Lib.hid hin
    clear hr hin hq hgd hcode
    go_wp2_with fail
    go_region_held3 (fun w' => w'.cell? ⟨w.heap.size, 0, none⟩ = some (.bool s) ∧ w'.cell? ⟨w.heap.size, 1, none⟩ = some (.int .u64 h) ∧ w'.cell? ⟨w.heap.size, 2, none⟩ = some (.int .u64 l) ∧ w'.cell? ⟨w.heap.size, 3, none⟩ = some (.int .i64 b))
      (first | exact ⟨x0, x1, x2, x3⟩ | ((repeat' apply And.intro) <;> (first | (go_simp; done) | with_reducible assumption)))
      (first
        | (go_at_call 74; refine (refLength_any _ _ _ _).mono ?_; rintro e W2 ⟨rfl, hb2⟩; have x0 : W2.cell? ⟨w.heap.size, 0, none⟩ = some (.bool s) := (hb2.cell (p := ⟨w.heap.size, 0, none⟩) (by (try simp); omega)).trans (by first | assumption | (go_simp; done)); have x1 : W2.cell? ⟨w.heap.size, 1, none⟩ = some (.int .u64 h) := (hb2.cell (p := ⟨w.heap.size, 1, none⟩) (by (try simp); omega)).trans (by first | assumption | (go_simp; done)); have x2 : W2.cell? ⟨w.heap.size, 2, none⟩ = some (.int .u64 l) := (hb2.cell (p := ⟨w.heap.size, 2, none⟩) (by (try simp); omega)).trans (by first | assumption | (go_simp; done)); have x3 : W2.cell? ⟨w.heap.size, 3, none⟩ = some (.int .i64 b) := (hb2.cell (p := ⟨w.heap.size, 3, none⟩) (by (try simp); omega)).trans (by first | assumption | (go_simp; done)); have hsz : w.heap.size + 1 ≤ W2.heap.size := (by have := hb2.size; (try simp at this); omega); have hl0 : w.heap.size < W2.heap.size := (by omega); have HBW : Hid (Below w.heap.size w W2) := (by first | exact Lib.hid (HBW.out.trans (hb2.mono (by omega))) | exact Lib.hid (HBW.out.drew.trans (hb2.mono (show w.heap.size ≤ W1.heap.size by omega)))))
        | (go_at_call 73; refine (in2_any _ _ _ _).mono ?_; rintro e W9 ⟨rfl, rfl⟩; rw [HIN.out]))
    go_wp2_with fail
    go_ret
    exact ⟨ret_eq HF.out.symm, HBW.out⟩
  have hin : (decide (0 ≤ b) && decide (b ≤ lenA s)) = true := by simp [hr.1, hr.2]
  have HIN := Lib.hid hin
  obtain ⟨m, hm⟩ := Int.eq_ofNat_of_zero_le (show 0 ≤ lenA s - b by omega)
  have hm2 : m ≤ 128 := by have : lenA s ≤ 128 := (by unfold lenA; split <;> omega); omega
  have hmm : (lenA s - b).toNat = m := by omega
  rw [hmm] at hq
  have HM := Lib.hid hm
  have HMM := Lib.hid hmm
  clear hin hm hmm
  go_wp2_with fail
  go_region_held3 (fun w' => w'.cell? ⟨w.heap.size, 0, none⟩ = some (.bool s) ∧ w'.cell? ⟨w.heap.size, 1, none⟩ = some (.int .u64 h) ∧ w'.cell? ⟨w.heap.size, 2, none⟩ = some (.int .u64 l) ∧ w'.cell? ⟨w.heap.size, 3, none⟩ = some (.int .i64 b))
    (first | exact ⟨x0, x1, x2, x3⟩ | ((repeat' apply And.intro) <;> (first | (go_simp; done) | with_reducible assumption)))
    (first
      | (go_at_call 74; refine (refLength_any _ _ _ _).mono ?_; rintro e W2 ⟨rfl, hb2⟩; have x0 : W2.cell? ⟨w.heap.size, 0, none⟩ = some (.bool s) := (hb2.cell (p := ⟨w.heap.size, 0, none⟩) (by (try simp); omega)).trans (by first | assumption | (go_simp; done)); have x1 : W2.cell? ⟨w.heap.size, 1, none⟩ = some (.int .u64 h) := (hb2.cell (p := ⟨w.heap.size, 1, none⟩) (by (try simp); omega)).trans (by first | assumption | (go_simp; done)); have x2 : W2.cell? ⟨w.heap.size, 2, none⟩ = some (.int .u64 l) := (hb2.cell (p := ⟨w.heap.size, 2, none⟩) (by (try simp); omega)).trans (by first | assumption | (go_simp; done)); have x3 : W2.cell? ⟨w.heap.size, 3, none⟩ = some (.int .i64 b) := (hb2.cell (p := ⟨w.heap.size, 3, none⟩) (by (try simp); omega)).trans (by first | assumption | (go_simp; done)); have hsz : w.heap.size + 1 ≤ W2.heap.size := (by have := hb2.size; (try simp at this); omega); have hl0 : w.heap.size < W2.heap.size := (by omega); have HBW : Hid (Below w.heap.size w W2) := (by first | exact Lib.hid (HBW.out.trans (hb2.mono (by omega))) | exact Lib.hid (HBW.out.drew.trans (hb2.mono (show w.heap.size ≤ W1.heap.size by omega)))))
      | (go_at_call 73; refine (in2_any _ _ _ _).mono ?_; rintro e W9 ⟨rfl, rfl⟩; rw [HIN.out]))
  cases hx : eqN (clrd (wd s h l) m) (wd s h l)
  · have HF : Hid (pfCode s h l b = 3) := Lib.hid (by rw [hcode.out, if_neg (by rw [HC.out]; decide), if_neg (fun e => e hr), HMM.out, if_pos hx])
    rw [hx] at hq
    clear hcode hx
    go_wp2_with fail
    go_region_held3 (fun w' => w'.cell? ⟨w.heap.size, 0, none⟩ = some (.bool s) ∧ w'.cell? ⟨w.heap.size, 1, none⟩ = some (.int .u64 h) ∧ w'.cell? ⟨w.heap.size, 2, none⟩ = some (.int .u64 l) ∧ w'.cell? ⟨w.heap.size, 3, none⟩ = some (.int .i64 b))
      (first | exact ⟨x0, x1, x2, x3⟩ | ((repeat' apply And.intro) <;> (first | (go_simp; done) | with_reducible assumption)))
      (first
        | (go_at_call 75; refine (firstOf_any s h l b _ uh ul m HM.out hm2 hr.1).mono ?_; rintro e W3 ⟨rfl, hb3⟩; unfold wideV arr9; have x0 : W3.cell? ⟨w.heap.size, 0, none⟩ = some (.bool s) := (hb3.cell (p := ⟨w.heap.size, 0, none⟩) (by (try simp); omega)).trans (by first | assumption | (go_simp; done)); have x1 : W3.cell? ⟨w.heap.size, 1, none⟩ = some (.int .u64 h) := (hb3.cell (p := ⟨w.heap.size, 1, none⟩) (by (try simp); omega)).trans (by first | assumption | (go_simp; done)); have x2 : W3.cell? ⟨w.heap.size, 2, none⟩ = some (.int .u64 l) := (hb3.cell (p := ⟨w.heap.size, 2, none⟩) (by (try simp); omega)).trans (by first | assumption | (go_simp; done)); have x3 : W3.cell? ⟨w.heap.size, 3, none⟩ = some (.int .i64 b) := (hb3.cell (p := ⟨w.heap.size, 3, none⟩) (by (try simp); omega)).trans (by first | assumption | (go_simp; done)); have hsz : w.heap.size + 1 ≤ W3.heap.size := (by have := hb3.size; (try simp at this); omega); have hl0 : w.heap.size < W3.heap.size := (by omega); have HBW : Hid (Below w.heap.size w W3) := (by first | exact Lib.hid (HBW.out.trans (hb3.mono (by omega))) | exact Lib.hid (HBW.out.drew.trans (hb3.mono (show w.heap.size ≤ W2.heap.size by omega)))))
        | (go_at_call 61; refine (of_any s h l _ uh ul).mono ?_; rintro e W3 ⟨rfl, hb3⟩; unfold wideV arr9; have x0 : W3.cell? ⟨w.heap.size, 0, none⟩ = some (.bool s) := (hb3.cell (p := ⟨w.heap.size, 0, none⟩) (by (try simp); omega)).trans (by first | assumption | (go_simp; done)); have x1 : W3.cell? ⟨w.heap.size, 1, none⟩ = some (.int .u64 h) := (hb3.cell (p := ⟨w.heap.size, 1, none⟩) (by (try simp); omega)).trans (by first | assumption | (go_simp; done)); have x2 : W3.cell? ⟨w.heap.size, 2, none⟩ = some (.int .u64 l) := (hb3.cell (p := ⟨w.heap.size, 2, none⟩) (by (try simp); omega)).trans (by first | assumption | (go_simp; done)); have x3 : W3.cell? ⟨w.heap.size, 3, none⟩ = some (.int .i64 b) := (hb3.cell (p := ⟨w.heap.size, 3, none⟩) (by (try simp); omega)).trans (by first | assumption | (go_simp; done)); have hsz : w.heap.size + 1 ≤ W3.heap.size := (by have := hb3.size; (try simp at this); omega); have hl0 : w.heap.size < W3.heap.size := (by omega); have HBW : Hid (Below w.heap.size w W3) := (by first | exact Lib.hid (HBW.out.trans (hb3.mono (by omega))) | exact Lib.hid (HBW.out.drew.trans (hb3.mono (show w.heap.size ≤ W2.heap.size by omega))))))
    go_wp2_with fail
    go_ret
    exact ⟨ret_eq HF.out.symm, HBW.out⟩
  · have HF : Hid (pfCode s h l b = 0) := Lib.hid (by rw [hcode.out, if_neg (by rw [HC.out]; decide), if_neg (fun e => e hr), HMM.out, if_neg (by rw [hx]; decide)])
    rw [hx] at hq
    clear hcode hx
    go_wp2_with fail
    go_region_held3 (fun w' => w'.cell? ⟨w.heap.size, 0, none⟩ = some (.bool s) ∧ w'.cell? ⟨w.heap.size, 1, none⟩ = some (.int .u64 h) ∧ w'.cell? ⟨w.heap.size, 2, none⟩ = some (.int .u64 l) ∧ w'.cell? ⟨w.heap.size, 3, none⟩ = some (.int .i64 b))
      (first | exact ⟨x0, x1, x2, x3⟩ | ((repeat' apply And.intro) <;> (first | (go_simp; done) | with_reducible assumption)))
      (first
        | (go_at_call 75; refine (firstOf_any s h l b _ uh ul m HM.out hm2 hr.1).mono ?_; rintro e W3 ⟨rfl, hb3⟩; unfold wideV arr9; have x0 : W3.cell? ⟨w.heap.size, 0, none⟩ = some (.bool s) := (hb3.cell (p := ⟨w.heap.size, 0, none⟩) (by (try simp); omega)).trans (by first | assumption | (go_simp; done)); have x1 : W3.cell? ⟨w.heap.size, 1, none⟩ = some (.int .u64 h) := (hb3.cell (p := ⟨w.heap.size, 1, none⟩) (by (try simp); omega)).trans (by first | assumption | (go_simp; done)); have x2 : W3.cell? ⟨w.heap.size, 2, none⟩ = some (.int .u64 l) := (hb3.cell (p := ⟨w.heap.size, 2, none⟩) (by (try simp); omega)).trans (by first | assumption | (go_simp; done)); have x3 : W3.cell? ⟨w.heap.size, 3, none⟩ = some (.int .i64 b) := (hb3.cell (p := ⟨w.heap.size, 3, none⟩) (by (try simp); omega)).trans (by first | assumption | (go_simp; done)); have hsz : w.heap.size + 1 ≤ W3.heap.size := (by have := hb3.size; (try simp at this); omega); have hl0 : w.heap.size < W3.heap.size := (by omega); have HBW : Hid (Below w.heap.size w W3) := (by first | exact Lib.hid (HBW.out.trans (hb3.mono (by omega))) | exact Lib.hid (HBW.out.drew.trans (hb3.mono (show w.heap.size ≤ W2.heap.size by omega)))))
        | (go_at_call 61; refine (of_any s h l _ uh ul).mono ?_; rintro e W3 ⟨rfl, hb3⟩; unfold wideV arr9; have x0 : W3.cell? ⟨w.heap.size, 0, none⟩ = some (.bool s) := (hb3.cell (p := ⟨w.heap.size, 0, none⟩) (by (try simp); omega)).trans (by first | assumption | (go_simp; done)); have x1 : W3.cell? ⟨w.heap.size, 1, none⟩ = some (.int .u64 h) := (hb3.cell (p := ⟨w.heap.size, 1, none⟩) (by (try simp); omega)).trans (by first | assumption | (go_simp; done)); have x2 : W3.cell? ⟨w.heap.size, 2, none⟩ = some (.int .u64 l) := (hb3.cell (p := ⟨w.heap.size, 2, none⟩) (by (try simp); omega)).trans (by first | assumption | (go_simp; done)); have x3 : W3.cell? ⟨w.heap.size, 3, none⟩ = some (.int .i64 b) := (hb3.cell (p := ⟨w.heap.size, 3, none⟩) (by (try simp); omega)).trans (by first | assumption | (go_simp; done)); have hsz : w.heap.size + 1 ≤ W3.heap.size := (by have := hb3.size; (try simp at this); omega); have hl0 : w.heap.size < W3.heap.size := (by omega); have HBW : Hid (Below w.heap.size w W3) := (by first | exact Lib.hid (HBW.out.trans (hb3.mono (by omega))) | exact Lib.hid (HBW.out.drew.trans (hb3.mono (show w.heap.size ≤ W2.heap.size by omega))))))
    go_wp2_with fail
    go_ret
    exact ⟨ret_eq HF.out.symm, HBW.out⟩
end Go.Proofs.YtollmagiifkicaaGreatDoor
