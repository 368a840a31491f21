/-
The law SetsHold holds: for every list of integers that is handed in, the call returns true and leaves the list as it was.
Conditions: those of the given row and card alone (the listed package-level variables start as the program's text lays them).
-/
import Derived.Test.YtcmfkheohhfpiaaGreatDoorCrSetsHold
import Derived.Test.YtcmfkheohhfpiaaGreatDoorTie
import Derived.Test.YtcmfkheohhfpiaaGreatDoorCards
import Derived.ProofKit
import Derived.SevenTiedAt
namespace Go.Proofs.YtcmfkheohhfpiaaGreatDoor
open Go.ChangeShapes Go.WideShapes Go.ChangeAt Go.RowKit

theorem wfSetsHold : Rows.setsHoldRow.wfByText (OpenSpec.ofChange Rows.setsHoldSpec) = true := by kernel_rfl
theorem mainSetsHold : Tryz.pinned.checked.prog.mainIs = some (true, "e75171f5a89a6e4214e114ffddb9ecd44b14e5b974a099349bb29a3eaf4dfb90".toList) := by kernel_rfl
theorem namedAtSetsHold : Tryz.prog.funcNamed "holloway/lanekeep2.SetsHold" = some 3 := by kernel_rfl
theorem looksSetsHold : true = Tryz.pinned.checked.prog.looks [] := by kernel_rfl
theorem standSetsHold : ([22].all fun u => !Tryz.prog.wantsStandIn u) = true := by kernel_rfl
theorem goesSetsHold : false = Rows.setsHoldRow.goesBy Tryz.pinned.checked.prog := by kernel_rfl
theorem cardSetsHold : Rows.SetsHoldCardSaid :=
  Claim7.holds_tied_plain_at .later [] [.data, .data, .data, .data, .sentinel, .sentinel, .pinned] true (true, "e75171f5a89a6e4214e114ffddb9ecd44b14e5b974a099349bb29a3eaf4dfb90") true
    rowSetsHold (fun _ h => by cases h) wfSetsHold (fun _ h => by cases h) setsHold_row_tie rfl ⟨rfl, rfl⟩ mainSetsHold rfl
    (fun f fn hf hfn => by
      obtain rfl : f = 3 := Option.some.inj (namedAtSetsHold.symm.trans hf) |>.symm
      obtain rfl : fn = Tryz.f3 := (Option.some.inj (Tryz.func3.symm.trans hfn)).symm
      exact ⟨looksSetsHold, fun j t ht => by
        rw [Tryz.params3] at ht
        have hm : t ∈ [22] := by simpa using Array.mem_of_getElem? ht
        exact (show Tryz.prog.wantsStandIn t = false by simpa using List.all_eq_true.1 standSetsHold t hm)⟩)
    goesSetsHold
#print axioms cardSetsHold
end Go.Proofs.YtcmfkheohhfpiaaGreatDoor
