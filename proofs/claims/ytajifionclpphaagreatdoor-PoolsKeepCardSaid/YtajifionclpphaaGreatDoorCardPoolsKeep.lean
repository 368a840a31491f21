/- The law PoolsKeep holds: for every list of integers that is handed in, the call returns true and leaves the list as it was.
Conditions: those of the given row and card alone (the listed package-level variables start as the program's text lays them). -/
import Derived.Test.YtajifionclpphaaGreatDoorCrPoolsKeep
import Derived.Test.YtajifionclpphaaGreatDoorTie
import Derived.Test.YtajifionclpphaaGreatDoorCards
import Derived.ProofKit
import Derived.SevenTiedAt
namespace Go.Proofs.YtajifionclpphaaGreatDoor
open Go.ChangeShapes Go.WideShapes Go.ChangeAt Go.RowKit

theorem wfPoolsKeep : Rows.poolsKeepRow.wfByText (OpenSpec.ofChange Rows.poolsKeepSpec) = true := by kernel_rfl
theorem mainPoolsKeep : Tryz.pinned.checked.prog.mainIs = some (true, "4fac6c47591e17d5214b1f46c97595cc27ea5fd1d79b4c22eae3669e24fe64a8".toList) := by kernel_rfl
theorem namedAtPoolsKeep : Tryz.prog.funcNamed "holloway/lanekeep2.PoolsKeep" = some 4 := by kernel_rfl
theorem looksPoolsKeep : true = Tryz.pinned.checked.prog.looks [] := by kernel_rfl
theorem standPoolsKeep : ([22].all fun u => !Tryz.prog.wantsStandIn u) = true := by kernel_rfl
theorem goesPoolsKeep : false = Rows.poolsKeepRow.goesBy Tryz.pinned.checked.prog := by kernel_rfl
theorem cardPoolsKeep : Rows.PoolsKeepCardSaid :=
  Claim7.holds_tied_plain_at .later [] [.data, .data, .data, .data, .sentinel, .sentinel, .pinned] true (true, "4fac6c47591e17d5214b1f46c97595cc27ea5fd1d79b4c22eae3669e24fe64a8") true
    rowPoolsKeep (fun _ h => by cases h) wfPoolsKeep (fun _ h => by cases h) poolsKeep_row_tie rfl ⟨rfl, rfl⟩ mainPoolsKeep rfl
    (fun f fn hf hfn => by
      obtain rfl : f = 4 := Option.some.inj (namedAtPoolsKeep.symm.trans hf) |>.symm
      obtain rfl : fn = Tryz.f4 := (Option.some.inj (Tryz.func4.symm.trans hfn)).symm
      exact ⟨looksPoolsKeep, fun j t ht => by
        rw [Tryz.params4] at ht
        have hm : t ∈ [22] := by simpa using Array.mem_of_getElem? ht
        exact (show Tryz.prog.wantsStandIn t = false by simpa using List.all_eq_true.1 standPoolsKeep t hm)⟩)
    goesPoolsKeep
#print axioms cardPoolsKeep
end Go.Proofs.YtajifionclpphaaGreatDoor
