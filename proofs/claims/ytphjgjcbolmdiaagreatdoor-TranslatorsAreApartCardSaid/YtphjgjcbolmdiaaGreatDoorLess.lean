/- route.far.less. -/
import Derived.Test.YtphjgjcbolmdiaaGreatDoorSteps
namespace Go.Proofs.YtphjgjcbolmdiaaGreatDoor
open Go.RowKit Go.Hw

def farV (p : Nat × Nat) : Value := .agg #[.int .i64 (p.1 : Int), .int .i64 (p.2 : Int)]
set_option maxHeartbeats 400000 in
theorem less_any (p q : Nat × Nat) (w : World) :
    Calls Tryz.prog 93 #[farV p, farV q] w fun e w' => e = .returned (.bool (decide (lt p q))) ∧ Below w.heap.size w w' := by
  obtain ⟨p1, p2⟩ := p
  obtain ⟨q1, q2⟩ := q
  unfold farV
  have hb : Below w.heap.size w ((w.alloc (.cells #[.int .i64 (p1 : Int), .int .i64 (p2 : Int)] 142)).alloc (.cells #[.int .i64 (q1 : Int), .int .i64 (q2 : Int)] 142)) := ((Below.refl _ _).alloc (Nat.le_refl _) _).alloc (by simp) _
  by_cases h1 : p1 < q1
  · have HF : Hid (decide (lt (p1, p2) (q1, q2)) = true) := Lib.hid (decide_eq_true (by unfold lt; simp only; omega))
    have h1' : decide (p1 < q1) = true := by simp; omega
    go_enter Tryz.func93, Tryz.ntmps93
    go_wp2_with fail
    go_ret
    exact ⟨ret_bool HF.out.symm, hb⟩
  · have h1' : decide (p1 < q1) = false := by simp; omega
    by_cases h2 : p1 = q1
    · subst h2
      have HF : Hid (decide (lt (p1, p2) (p1, q2)) = decide (p2 < q2)) := Lib.hid (by unfold lt; simp)
      clear h1
      go_enter Tryz.func93, Tryz.ntmps93
      go_wp2_with fail
      go_ret
      exact ⟨ret_bool HF.out.symm, hb⟩
    · have h2' : ((p1 : Int) == (q1 : Int)) = false := by simp; omega
      have HF : Hid (decide (lt (p1, p2) (q1, q2)) = false) := Lib.hid (decide_eq_false (by unfold lt; simp only; omega))
      clear h1 h2
      go_enter Tryz.func93, Tryz.ntmps93
      go_wp2_with fail
      go_ret
      exact ⟨ret_bool HF.out.symm, hb⟩
end Go.Proofs.YtphjgjcbolmdiaaGreatDoor
