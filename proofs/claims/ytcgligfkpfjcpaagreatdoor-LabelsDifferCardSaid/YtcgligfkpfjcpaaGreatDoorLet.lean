/- name.isLetter (BaA has its own copy: do not import both). -/
import Derived.Test.YtcgligfkpfjcpaaGreatDoorKey
namespace Go.Proofs.YtcgligfkpfjcpaaGreatDoor
open Go.RowKit Go.Hw Go.Shelf

/-- A letter or a digit. -/
def letP (n : Nat) : Bool := decide ((97 ≤ n ∧ n ≤ 122) ∨ (48 ≤ n ∧ n ≤ 57))
theorem isLetter_any (c : UInt8) (w : World) : Calls Tryz.prog 54 #[.int .u8 (c.toNat : Int)] w fun e w' => e = .returned (.bool (letP c.toNat)) ∧ w = w' := by
  have hc : c.toNat < 256 := c.toNat_lt
  generalize c.toNat = n at *
  by_cases h1 : 97 ≤ n
  · by_cases h2 : n ≤ 122
    · go_enter Tryz.func54, Tryz.ntmps54
      go_wp2_with fail
      go_ret
      exact ⟨ret_bool (Bool.eq_iff_iff.2 (by unfold letP; simp; omega)), rfl⟩
    · go_enter Tryz.func54, Tryz.ntmps54
      go_wp2_with fail
      go_ret
      exact ⟨ret_bool (Bool.eq_iff_iff.2 (by unfold letP; simp; omega)), rfl⟩
  · by_cases h3 : 48 ≤ n
    · go_enter Tryz.func54, Tryz.ntmps54
      go_wp2_with fail
      go_ret
      exact ⟨ret_bool (Bool.eq_iff_iff.2 (by unfold letP; simp; omega)), rfl⟩
    · go_enter Tryz.func54, Tryz.ntmps54
      go_wp2_with fail
      go_ret
      exact ⟨ret_bool (Bool.eq_iff_iff.2 (by unfold letP; simp; omega)), rfl⟩
end Go.Proofs.YtcgligfkpfjcpaaGreatDoor
