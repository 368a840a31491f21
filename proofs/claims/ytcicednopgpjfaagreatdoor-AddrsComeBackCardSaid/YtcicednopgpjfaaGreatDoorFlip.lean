/- Stream.Flip. -/
import Derived.Test.YtcicednopgpjfaaGreatDoorStr
namespace Go.Proofs.YtcicednopgpjfaaGreatDoor
open Go.RowKit Go.Hw

theorem flip_any (b : Nat) (A : Option Addr) (cap : Nat) (l : List Int) (at_ n : Int) (w : World) (h : Str w b A cap l at_) (h1 : 1 ≤ n) (hn : n ≤ 9223372036854775807) (hh : at_ < 1099511627776) :
    Calls Tryz.prog 26 #[.pointer (some ⟨b, 0, none⟩), .int .i64 n] w fun e w' => e = .returned (.bool (drawOf l at_ n == 0)) ∧ Str w' b A cap l (at_ + 1) ∧ w.grownBy w' (some b) := by
  go_enter Tryz.func26, Tryz.ntmps26
  go_wp2_with fail
  refine (next_any b A cap l at_ n _ h h1 hn hh).mono ?_
  rintro e w' ⟨rfl, hs, hg⟩
  clear h
  go_wp2_with fail
  go_ret
  exact ⟨rfl, hs, hg⟩

end Go.Proofs.YtcicednopgpjfaaGreatDoor
