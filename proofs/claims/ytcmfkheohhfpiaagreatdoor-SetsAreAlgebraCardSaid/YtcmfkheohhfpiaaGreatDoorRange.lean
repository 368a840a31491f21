/- Stream.Range. -/
import Derived.Test.YtcmfkheohhfpiaaGreatDoorStr
namespace Go.Proofs.YtcmfkheohhfpiaaGreatDoor
open Go.RowKit Go.Hw

theorem range_any (b : Nat) (A : Option Addr) (cap : Nat) (l : List Int) (at_ lo hi : Int) (w : World) (h : Str w b A cap l at_) (hlo : -4611686018427387904 ≤ lo) (hle : lo ≤ hi) (hhi : hi ≤ 4611686018427387903) (hh : at_ < 1099511627776) (hd : hi - lo + 1 ≤ 4611686018427387903) :
    Calls Tryz.prog 26 #[.pointer (some ⟨b, 0, none⟩), .int .i64 lo, .int .i64 hi] w fun e w' => e = .returned (.int .i64 (lo + drawOf l at_ (hi - lo + 1))) ∧ Str w' b A cap l (at_ + 1) ∧ w.grownBy w' (some b) := by
  have d1 := draw_low l at_ (hi - lo + 1) (by omega)
  have d2 := draw_high l at_ (hi - lo + 1) (by omega)
  go_enter Tryz.func26, Tryz.ntmps26
  go_wp2_with fail
  refine (next_any b A cap l at_ _ _ h (by omega) (by omega) hh).mono ?_
  rintro e w' ⟨rfl, hs, hg⟩
  clear h
  go_wp2_with fail
  go_ret
  exact ⟨rfl, hs, hg⟩

end Go.Proofs.YtcmfkheohhfpiaaGreatDoor
