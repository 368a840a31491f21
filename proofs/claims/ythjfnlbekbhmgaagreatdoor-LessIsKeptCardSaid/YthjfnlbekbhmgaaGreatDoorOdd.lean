/- Stream.Odd. -/
import Derived.Test.YthjfnlbekbhmgaaGreatDoorFlip
import Derived.Test.YthjfnlbekbhmgaaGreatDoorRange
import Derived.Test.YthjfnlbekbhmgaaGreatDoorPick
namespace Go.Proofs.YthjfnlbekbhmgaaGreatDoor
open Go.RowKit Go.Hw

/-- What Odd hands out. -/
def oddOf (l : List Int) (at_ lo hi : Int) : Int :=
  if drawOf l at_ 12 == 0 then [lo - 1, hi + 1, lo, hi, -1099511627776, 1099511627776].getD (drawOf l (at_ + 1) 6).toNat 0 else lo + drawOf l (at_ + 1) (hi - lo + 1)
set_option maxRecDepth 100000 in
set_option maxHeartbeats 400000 in
theorem odd_any (b : Nat) (A : Option Addr) (cap : Nat) (l : List Int) (at_ lo hi : Int) (w : World) (h : Str w b A cap l at_) (hh : at_ < 1099511627775) (hlo : -1099511627776 ≤ lo) (hle : lo ≤ hi) (hhi : hi ≤ 1099511627776) :
    Calls Tryz.prog 27 #[.pointer (some ⟨b, 0, none⟩), .int .i64 lo, .int .i64 hi] w fun e w' => e = .returned (.int .i64 (oddOf l at_ lo hi)) ∧ Str w' b A cap l (at_ + 2) ∧ w.grownBy w' (some b) := by
  have e2 : at_ + 1 + 1 = at_ + 2 := by omega
  have E2 := Lib.hid e2
  clear e2
  cases hx : drawOf l at_ 12 == 0
  · have hfin : oddOf l at_ lo hi = lo + drawOf l (at_ + 1) (hi - lo + 1) := by unfold oddOf; rw [hx]; rfl
    have HF := Lib.hid hfin
    clear hfin
    go_enter Tryz.func27, Tryz.ntmps27
    go_wp2_with fail
    refine (flip_any b A cap l at_ _ _ h (by omega) (by omega) (by omega)).mono ?_
    rintro e w1 ⟨rfl, hs, hg⟩
    clear h
    go_wp2_with fail
    refine (range_any b A cap l _ lo hi _ hs (by omega) hle (by omega) (by omega) (by omega)).mono ?_
    rintro e w2 ⟨rfl, hs2, hg2⟩
    clear hs
    go_wp2_with fail
    go_ret
    exact ⟨ret_eq HF.out.symm, E2.out ▸ hs2, hg.andThen hg2 (fun _ h => .inr h)⟩
  · have hfin : oddOf l at_ lo hi = [lo - 1, hi + 1, lo, hi, -1099511627776, 1099511627776].getD (drawOf l (at_ + 1) 6).toNat 0 := by unfold oddOf; rw [hx]; rfl
    have HF := Lib.hid hfin
    clear hfin
    go_enter Tryz.func27, Tryz.ntmps27
    go_wp2_with fail
    refine (flip_any b A cap l at_ _ _ h (by omega) (by omega) (by omega)).mono ?_
    rintro e w1 ⟨rfl, hs, hg⟩
    clear h
    go_wp2_with fail
    refine (pick_any b A cap l _ _ (hs.alloc _) (by omega) w1.heap.size [lo - 1, hi + 1, lo, hi, -1099511627776, 1099511627776] (by rw [heap_alloc_new]; rfl) (by have := hs.lt; omega) (by simp) (by simp) 6 6 rfl).mono ?_
    rintro e w2 ⟨rfl, hs2, hg2⟩
    clear hs
    go_wp2_with fail
    go_ret
    refine ⟨?_, E2.out ▸ hs2, hg.andThen (grown_alloc_then hg2) (fun _ h => .inr h)⟩
    exact ret_eq HF.out.symm
end Go.Proofs.YthjfnlbekbhmgaaGreatDoor
