/- addr.CheckAddr. -/
import Derived.Test.YtcmfkheohhfpiaaGreatDoorReA
namespace Go.Proofs.YtcmfkheohhfpiaaGreatDoor
open Go.RowKit Go.Hw
/-- What is wrong with an address. -/
def addrCode (six : Bool) (hi lo : Int) : Int := if six = false ∧ (hi ≠ 0 ∨ 4294967296 ≤ lo) then 3 else 0
set_option maxRecDepth 100000 in
set_option maxHeartbeats 400000 in
theorem checkAddr_any (six : Bool) (hi lo : Int) (w : World) (h0 : 0 ≤ hi) :
    Calls Tryz.prog 28 #[.agg #[.bool six, .int .u64 hi, .int .u64 lo]] w fun e w' => e = .returned (.int .i64 (addrCode six hi lo)) ∧ Below w.heap.size w w' := by
  have hB : Below w.heap.size w (w.alloc (.cells #[.bool six, .int .u64 hi, .int .u64 lo] 30)) := (Below.refl _ _).alloc (Nat.le_refl _) _
  have HB := Lib.hid hB
  clear hB
  have hfin : addrCode six hi lo = addrCode six hi lo := rfl
  conv at hfin => rhs; unfold addrCode
  cases six
  · by_cases h1 : hi = 0
    · subst h1
      by_cases h2 : 4294967296 ≤ lo
      · have HF : Hid (addrCode false 0 lo = 3) := Lib.hid (by rw [hfin]; simp [h2])
        clear hfin
        go_enter Tryz.func28, Tryz.ntmps28
        go_wp2_with fail
        go_ret
        exact ⟨ret_eq HF.out.symm, HB.out⟩
      · have HF : Hid (addrCode false 0 lo = 0) := Lib.hid (by rw [hfin]; simp [h2])
        clear hfin
        go_enter Tryz.func28, Tryz.ntmps28
        go_wp2_with fail
        go_ret
        exact ⟨ret_eq HF.out.symm, HB.out⟩
    · have HF : Hid (addrCode false hi lo = 3) := Lib.hid (by rw [hfin]; simp [h1])
      clear hfin
      have e1 : (hi != 0) = true := by simpa using h1
      have e2 : (hi == 0) = false := by simpa using h1
      go_enter Tryz.func28, Tryz.ntmps28
      go_wp2_with fail
      go_ret
      exact ⟨ret_eq HF.out.symm, HB.out⟩
  · have HF : Hid (addrCode true hi lo = 0) := Lib.hid (by rw [hfin]; simp)
    clear hfin
    go_enter Tryz.func28, Tryz.ntmps28
    go_wp2_with fail
    go_ret
    exact ⟨ret_eq HF.out.symm, HB.out⟩
end Go.Proofs.YtcmfkheohhfpiaaGreatDoor
