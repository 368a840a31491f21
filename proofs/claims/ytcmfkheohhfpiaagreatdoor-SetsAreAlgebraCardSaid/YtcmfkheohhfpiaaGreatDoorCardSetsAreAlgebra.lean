/-
The law SetsAreAlgebra holds: for every list of integers that is handed in, the call returns true and leaves the list as it was.
Conditions: those of the given row and card alone (the listed package-level variables start as the program's text lays them).
-/
import Derived.Test.YtcmfkheohhfpiaaGreatDoorCrSetsAreAlgebra
import Derived.Test.YtcmfkheohhfpiaaGreatDoorTie
import Derived.Test.YtcmfkheohhfpiaaGreatDoorCards
import Derived.ProofKit
import Derived.SevenTiedAt
namespace Go.Proofs.YtcmfkheohhfpiaaGreatDoor
open Go.ChangeShapes Go.WideShapes Go.ChangeAt Go.RowKit

theorem wfSetsAreAlgebra : Rows.setsAreAlgebraRow.wfByText (OpenSpec.ofChange Rows.setsAreAlgebraSpec) = true := by kernel_rfl
theorem mainSetsAreAlgebra : Tryz.pinned.checked.prog.mainIs = some (true, "e75171f5a89a6e4214e114ffddb9ecd44b14e5b974a099349bb29a3eaf4dfb90".toList) := by kernel_rfl
theorem namedAtSetsAreAlgebra : Tryz.prog.funcNamed "holloway/lanekeep2.SetsAreAlgebra" = some 4 := by kernel_rfl
theorem looksSetsAreAlgebra : true = Tryz.pinned.checked.prog.looks [] := by kernel_rfl
theorem standSetsAreAlgebra : ([22].all fun u => !Tryz.prog.wantsStandIn u) = true := by kernel_rfl
theorem goesSetsAreAlgebra : false = Rows.setsAreAlgebraRow.goesBy Tryz.pinned.checked.prog := by kernel_rfl
theorem cardSetsAreAlgebra : Rows.SetsAreAlgebraCardSaid :=
  Claim7.holds_tied_plain_at .later [] [.data, .data, .data, .data, .sentinel, .sentinel, .pinned] true (true, "e75171f5a89a6e4214e114ffddb9ecd44b14e5b974a099349bb29a3eaf4dfb90") true
    rowSetsAreAlgebra (fun _ h => by cases h) wfSetsAreAlgebra (fun _ h => by cases h) setsAreAlgebra_row_tie rfl ⟨rfl, rfl⟩ mainSetsAreAlgebra rfl
    (fun f fn hf hfn => by
      obtain rfl : f = 4 := Option.some.inj (namedAtSetsAreAlgebra.symm.trans hf) |>.symm
      obtain rfl : fn = Tryz.f4 := (Option.some.inj (Tryz.func4.symm.trans hfn)).symm
      exact ⟨looksSetsAreAlgebra, fun j t ht => by
        rw [Tryz.params4] at ht
        have hm : t ∈ [22] := by simpa using Array.mem_of_getElem? ht
        exact (show Tryz.prog.wantsStandIn t = false by simpa using List.all_eq_true.1 standSetsAreAlgebra t hm)⟩)
    goesSetsAreAlgebra
#print axioms cardSetsAreAlgebra
end Go.Proofs.YtcmfkheohhfpiaaGreatDoor
