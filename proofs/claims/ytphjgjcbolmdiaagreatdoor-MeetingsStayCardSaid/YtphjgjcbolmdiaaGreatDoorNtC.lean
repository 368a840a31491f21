/- Translators: what is wrong with one (route.natFault, laneref1.NatFault); route.New; moments. -/
import Derived.Test.YtphjgjcbolmdiaaGreatDoorNtB
namespace Go.Proofs.YtphjgjcbolmdiaaGreatDoor
open Go.RowKit Go.Hw

/-- What a translator is made of. -/
structure NatC where
  maps : Int
  lets : Int
  timeout : Int
  first : Int
  ports : Int
  six : Bool
  hi : Int
  lo : Int
def natCells (n : NatC) : List Value := [.int .i64 n.maps, .int .i64 n.lets, .int .i64 n.timeout, .int .i64 n.first, .int .i64 n.ports, .bool n.six, .int .u64 n.hi, .int .u64 n.lo]
def natCode (n : NatC) : Int :=
  if ¬ (1 ≤ n.maps ∧ n.maps ≤ 3) then 4 else if ¬ (1 ≤ n.lets ∧ n.lets ≤ 3) then 4
  else if ¬ (1 ≤ n.timeout ∧ n.timeout ≤ 1000000) then 1 else if ¬ (1 ≤ n.first ∧ n.first ≤ 65535) then 1 else if ¬ (1 ≤ n.ports ∧ n.ports ≤ 65536 - n.first) then 1
  else addrCode n.six n.hi n.lo
set_option maxRecDepth 100000 in
set_option maxHeartbeats 1000000 in
theorem natFault_any (n : NatC) (w : World) (h0 : 0 ≤ n.hi) :
    Calls Tryz.prog 28 #[.agg #[.int .i64 n.maps, .int .i64 n.lets, .int .i64 n.timeout, .int .i64 n.first, .int .i64 n.ports, .bool n.six, .int .u64 n.hi, .int .u64 n.lo]] w fun e w' => e = .returned (.int .i64 (natCode n)) ∧ Below w.heap.size w w' := by
  have hB : Below w.heap.size w (w.alloc (.cells #[.int .i64 n.maps, .int .i64 n.lets, .int .i64 n.timeout, .int .i64 n.first, .int .i64 n.ports, .bool n.six, .int .u64 n.hi, .int .u64 n.lo] 30)) := (Below.refl _ _).alloc (Nat.le_refl _) _
  have HB := Lib.hid hB
  clear hB
  have hfin : natCode n = natCode n := rfl
  conv at hfin => rhs; unfold natCode
  by_cases c0 : 1 ≤ n.maps ∧ n.maps ≤ 3
  rotate_left
  · have HF : Hid (natCode n = 4) := Lib.hid (by rw [hfin, if_pos c0])
    clear hfin
    have b0 := out_true c0
    go_enter Tryz.func28, Tryz.ntmps28
    go_wp2_with fail
    refine (outside_any _ _ _ _).mono ?_
    rintro e w' ⟨rfl, rfl⟩
    rw [b0]
    go_wp2_with fail
    go_ret
    exact ⟨ret_eq HF.out.symm, HB.out⟩
  have b0 := out_false c0.1 c0.2
  by_cases c1 : 1 ≤ n.lets ∧ n.lets ≤ 3
  rotate_left
  · have HF : Hid (natCode n = 4) := Lib.hid (by rw [hfin, if_neg (Decidable.not_not.2 c0), if_pos c1])
    clear hfin
    have b1 := out_true c1
    go_enter Tryz.func28, Tryz.ntmps28
    go_wp2_with fail
    refine (outside_any _ _ _ _).mono ?_
    rintro e w' ⟨rfl, rfl⟩
    rw [b0]
    go_wp2_with fail
    refine (outside_any _ _ _ _).mono ?_
    rintro e w' ⟨rfl, rfl⟩
    rw [b1]
    go_wp2_with fail
    go_ret
    exact ⟨ret_eq HF.out.symm, HB.out⟩
  have b1 := out_false c1.1 c1.2
  by_cases c2 : 1 ≤ n.timeout ∧ n.timeout ≤ 1000000
  rotate_left
  · have HF : Hid (natCode n = 1) := Lib.hid (by rw [hfin, if_neg (Decidable.not_not.2 c0), if_neg (Decidable.not_not.2 c1), if_pos c2])
    clear hfin
    have b2 := out_true c2
    go_enter Tryz.func28, Tryz.ntmps28
    go_wp2_with fail
    refine (outside_any _ _ _ _).mono ?_
    rintro e w' ⟨rfl, rfl⟩
    rw [b0]
    go_wp2_with fail
    refine (outside_any _ _ _ _).mono ?_
    rintro e w' ⟨rfl, rfl⟩
    rw [b1]
    go_wp2_with fail
    refine (outside_any _ _ _ _).mono ?_
    rintro e w' ⟨rfl, rfl⟩
    rw [b2]
    go_wp2_with fail
    go_ret
    exact ⟨ret_eq HF.out.symm, HB.out⟩
  have b2 := out_false c2.1 c2.2
  by_cases c3 : 1 ≤ n.first ∧ n.first ≤ 65535
  rotate_left
  · have HF : Hid (natCode n = 1) := Lib.hid (by rw [hfin, if_neg (Decidable.not_not.2 c0), if_neg (Decidable.not_not.2 c1), if_neg (Decidable.not_not.2 c2), if_pos c3])
    clear hfin
    have b3 := out_true c3
    go_enter Tryz.func28, Tryz.ntmps28
    go_wp2_with fail
    refine (outside_any _ _ _ _).mono ?_
    rintro e w' ⟨rfl, rfl⟩
    rw [b0]
    go_wp2_with fail
    refine (outside_any _ _ _ _).mono ?_
    rintro e w' ⟨rfl, rfl⟩
    rw [b1]
    go_wp2_with fail
    refine (outside_any _ _ _ _).mono ?_
    rintro e w' ⟨rfl, rfl⟩
    rw [b2]
    go_wp2_with fail
    refine (outside_any _ _ _ _).mono ?_
    rintro e w' ⟨rfl, rfl⟩
    rw [b3]
    go_wp2_with fail
    go_ret
    exact ⟨ret_eq HF.out.symm, HB.out⟩
  have b3 := out_false c3.1 c3.2
  by_cases c4 : 1 ≤ n.ports ∧ n.ports ≤ 65536 - n.first
  rotate_left
  · have HF : Hid (natCode n = 1) := Lib.hid (by rw [hfin, if_neg (Decidable.not_not.2 c0), if_neg (Decidable.not_not.2 c1), if_neg (Decidable.not_not.2 c2), if_neg (Decidable.not_not.2 c3), if_pos c4])
    clear hfin
    have b4 := out_true c4
    clear c4
    go_enter Tryz.func28, Tryz.ntmps28
    go_wp2_with fail
    refine (outside_any _ _ _ _).mono ?_
    rintro e w' ⟨rfl, rfl⟩
    rw [b0]
    go_wp2_with fail
    refine (outside_any _ _ _ _).mono ?_
    rintro e w' ⟨rfl, rfl⟩
    rw [b1]
    go_wp2_with fail
    refine (outside_any _ _ _ _).mono ?_
    rintro e w' ⟨rfl, rfl⟩
    rw [b2]
    go_wp2_with fail
    refine (outside_any _ _ _ _).mono ?_
    rintro e w' ⟨rfl, rfl⟩
    rw [b3]
    go_wp2_with fail
    refine (outside_any _ _ _ _).mono ?_
    rintro e w' ⟨rfl, rfl⟩
    rw [b4]
    go_wp2_with fail
    go_ret
    exact ⟨ret_eq HF.out.symm, HB.out⟩
  have b4 := out_false c4.1 c4.2
  have HF : Hid (natCode n = addrCode n.six n.hi n.lo) := Lib.hid (by rw [hfin, if_neg (Decidable.not_not.2 c0), if_neg (Decidable.not_not.2 c1), if_neg (Decidable.not_not.2 c2), if_neg (Decidable.not_not.2 c3), if_neg (Decidable.not_not.2 c4)])
  clear hfin
  go_enter Tryz.func28, Tryz.ntmps28
  go_wp2_with fail
  refine (outside_any _ _ _ _).mono ?_
  rintro e w' ⟨rfl, rfl⟩
  rw [b0]
  go_wp2_with fail
  refine (outside_any _ _ _ _).mono ?_
  rintro e w' ⟨rfl, rfl⟩
  rw [b1]
  go_wp2_with fail
  refine (outside_any _ _ _ _).mono ?_
  rintro e w' ⟨rfl, rfl⟩
  rw [b2]
  go_wp2_with fail
  refine (outside_any _ _ _ _).mono ?_
  rintro e w' ⟨rfl, rfl⟩
  rw [b3]
  go_wp2_with fail
  refine (outside_any _ _ _ _).mono ?_
  rintro e w' ⟨rfl, rfl⟩
  rw [b4]
  go_wp2_with fail
  refine (checkAddr_any n.six n.hi n.lo _ h0).mono ?_
  rintro e w1 ⟨rfl, hb⟩
  have HB2 := Lib.hid (below_box (Below.refl _ w) (Nat.le_refl _) hb)
  clear hb
  go_wp2_with fail
  go_ret
  exact ⟨ret_eq HF.out.symm, HB2.out⟩

set_option maxRecDepth 100000 in
set_option maxHeartbeats 1000000 in
theorem refNatFault_any (n : NatC) (w : World) (h0 : 0 ≤ n.hi) :
    Calls Tryz.prog 6 #[.agg #[.int .i64 n.maps, .int .i64 n.lets, .int .i64 n.timeout, .int .i64 n.first, .int .i64 n.ports, .bool n.six, .int .u64 n.hi, .int .u64 n.lo]] w fun e w' => e = .returned (.int .i64 (natCode n)) ∧ Below w.heap.size w w' := by
  have hB : Below w.heap.size w (w.alloc (.cells #[.int .i64 n.maps, .int .i64 n.lets, .int .i64 n.timeout, .int .i64 n.first, .int .i64 n.ports, .bool n.six, .int .u64 n.hi, .int .u64 n.lo] 30)) := (Below.refl _ _).alloc (Nat.le_refl _) _
  have HB := Lib.hid hB
  clear hB
  have hfin : natCode n = natCode n := rfl
  conv at hfin => rhs; unfold natCode
  by_cases c0 : 1 ≤ n.maps ∧ n.maps ≤ 3
  rotate_left
  · have HF : Hid (natCode n = 4) := Lib.hid (by rw [hfin, if_pos c0])
    clear hfin
    have b0 := in_false c0
    go_enter Tryz.func6, Tryz.ntmps6
    go_wp2_with fail
    refine (in1_any _ _ _ _).mono ?_
    rintro e w' ⟨rfl, rfl⟩
    rw [b0]
    go_wp2_with fail
    go_ret
    exact ⟨ret_eq HF.out.symm, HB.out⟩
  have b0 := in_true c0.1 c0.2
  by_cases c1 : 1 ≤ n.lets ∧ n.lets ≤ 3
  rotate_left
  · have HF : Hid (natCode n = 4) := Lib.hid (by rw [hfin, if_neg (Decidable.not_not.2 c0), if_pos c1])
    clear hfin
    have b1 := in_false c1
    go_enter Tryz.func6, Tryz.ntmps6
    go_wp2_with fail
    refine (in1_any _ _ _ _).mono ?_
    rintro e w' ⟨rfl, rfl⟩
    rw [b0]
    go_wp2_with fail
    refine (in1_any _ _ _ _).mono ?_
    rintro e w' ⟨rfl, rfl⟩
    rw [b1]
    go_wp2_with fail
    go_ret
    exact ⟨ret_eq HF.out.symm, HB.out⟩
  have b1 := in_true c1.1 c1.2
  by_cases c2 : 1 ≤ n.timeout ∧ n.timeout ≤ 1000000
  rotate_left
  · have HF : Hid (natCode n = 1) := Lib.hid (by rw [hfin, if_neg (Decidable.not_not.2 c0), if_neg (Decidable.not_not.2 c1), if_pos c2])
    clear hfin
    have b2 := in_false c2
    go_enter Tryz.func6, Tryz.ntmps6
    go_wp2_with fail
    refine (in1_any _ _ _ _).mono ?_
    rintro e w' ⟨rfl, rfl⟩
    rw [b0]
    go_wp2_with fail
    refine (in1_any _ _ _ _).mono ?_
    rintro e w' ⟨rfl, rfl⟩
    rw [b1]
    go_wp2_with fail
    refine (in1_any _ _ _ _).mono ?_
    rintro e w' ⟨rfl, rfl⟩
    rw [b2]
    go_wp2_with fail
    go_ret
    exact ⟨ret_eq HF.out.symm, HB.out⟩
  have b2 := in_true c2.1 c2.2
  by_cases c3 : 1 ≤ n.first ∧ n.first ≤ 65535
  rotate_left
  · have HF : Hid (natCode n = 1) := Lib.hid (by rw [hfin, if_neg (Decidable.not_not.2 c0), if_neg (Decidable.not_not.2 c1), if_neg (Decidable.not_not.2 c2), if_pos c3])
    clear hfin
    have b3 := in_false c3
    go_enter Tryz.func6, Tryz.ntmps6
    go_wp2_with fail
    refine (in1_any _ _ _ _).mono ?_
    rintro e w' ⟨rfl, rfl⟩
    rw [b0]
    go_wp2_with fail
    refine (in1_any _ _ _ _).mono ?_
    rintro e w' ⟨rfl, rfl⟩
    rw [b1]
    go_wp2_with fail
    refine (in1_any _ _ _ _).mono ?_
    rintro e w' ⟨rfl, rfl⟩
    rw [b2]
    go_wp2_with fail
    refine (in1_any _ _ _ _).mono ?_
    rintro e w' ⟨rfl, rfl⟩
    rw [b3]
    go_wp2_with fail
    go_ret
    exact ⟨ret_eq HF.out.symm, HB.out⟩
  have b3 := in_true c3.1 c3.2
  by_cases c4 : 1 ≤ n.ports ∧ n.ports ≤ 65536 - n.first
  rotate_left
  · have HF : Hid (natCode n = 1) := Lib.hid (by rw [hfin, if_neg (Decidable.not_not.2 c0), if_neg (Decidable.not_not.2 c1), if_neg (Decidable.not_not.2 c2), if_neg (Decidable.not_not.2 c3), if_pos c4])
    clear hfin
    have b4 := in_false c4
    clear c4
    go_enter Tryz.func6, Tryz.ntmps6
    go_wp2_with fail
    refine (in1_any _ _ _ _).mono ?_
    rintro e w' ⟨rfl, rfl⟩
    rw [b0]
    go_wp2_with fail
    refine (in1_any _ _ _ _).mono ?_
    rintro e w' ⟨rfl, rfl⟩
    rw [b1]
    go_wp2_with fail
    refine (in1_any _ _ _ _).mono ?_
    rintro e w' ⟨rfl, rfl⟩
    rw [b2]
    go_wp2_with fail
    refine (in1_any _ _ _ _).mono ?_
    rintro e w' ⟨rfl, rfl⟩
    rw [b3]
    go_wp2_with fail
    refine (in1_any _ _ _ _).mono ?_
    rintro e w' ⟨rfl, rfl⟩
    rw [b4]
    go_wp2_with fail
    go_ret
    exact ⟨ret_eq HF.out.symm, HB.out⟩
  have b4 := in_true c4.1 c4.2
  have HF : Hid (natCode n = addrCode n.six n.hi n.lo) := Lib.hid (by rw [hfin, if_neg (Decidable.not_not.2 c0), if_neg (Decidable.not_not.2 c1), if_neg (Decidable.not_not.2 c2), if_neg (Decidable.not_not.2 c3), if_neg (Decidable.not_not.2 c4)])
  clear hfin
  go_enter Tryz.func6, Tryz.ntmps6
  go_wp2_with fail
  refine (in1_any _ _ _ _).mono ?_
  rintro e w' ⟨rfl, rfl⟩
  rw [b0]
  go_wp2_with fail
  refine (in1_any _ _ _ _).mono ?_
  rintro e w' ⟨rfl, rfl⟩
  rw [b1]
  go_wp2_with fail
  refine (in1_any _ _ _ _).mono ?_
  rintro e w' ⟨rfl, rfl⟩
  rw [b2]
  go_wp2_with fail
  refine (in1_any _ _ _ _).mono ?_
  rintro e w' ⟨rfl, rfl⟩
  rw [b3]
  go_wp2_with fail
  refine (in1_any _ _ _ _).mono ?_
  rintro e w' ⟨rfl, rfl⟩
  rw [b4]
  go_wp2_with fail
  refine (addrFault_any n.six n.hi n.lo _ h0).mono ?_
  rintro e w1 ⟨rfl, hb⟩
  have HB2 := Lib.hid (below_box (Below.refl _ w) (Nat.le_refl _) hb)
  clear hb
  go_wp2_with fail
  go_ret
  exact ⟨ret_eq HF.out.symm, HB2.out⟩

end Go.Proofs.YtphjgjcbolmdiaaGreatDoor
