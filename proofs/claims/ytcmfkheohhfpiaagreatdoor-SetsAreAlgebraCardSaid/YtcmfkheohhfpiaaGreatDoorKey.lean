/- Keys: kit.IsKey, kit.Outside. -/
import Derived.Test.YtcmfkheohhfpiaaGreatDoorStr
import Derived.Test.YtcmfkheohhfpiaaGreatDoorShelf
import Derived.Shelf.Strings.SlTrimAscii
namespace Go.Proofs.YtcmfkheohhfpiaaGreatDoor
open Go.RowKit Go.Hw Go.Shelf

theorem ret_bool {a b : Bool} (h : a = b) : Ending.returned (.bool a) = .returned (.bool b) := by rw [h]

def keyByte (i c : Nat) : Bool := (decide (97 ≤ c) && decide (c ≤ 122)) || (decide (0 < i) && ((decide (48 ≤ c) && decide (c ≤ 57)) || decide (c = 45) || decide (c = 95)))
def isKey (s : ByteArray) : Bool := decide (∀ j (h : j < s.size), keyByte j s[j].toNat = true) && decide (0 < s.size) && decide (s.size ≤ 40)

theorem toList_nil {s : ByteArray} (h : s.size = 0) : s.toList = [] := by
  rw [ByteArray.toList_eq]
  exact List.eq_nil_of_length_eq_zero h
theorem size_of_nil {s : ByteArray} (h : s.toList = []) : s.size = 0 := by
  rw [ByteArray.toList_eq] at h
  have := congrArg List.length h
  exact this
theorem isKey_false {s : ByteArray} {k : Nat} (hk : k < s.size) (h : keyByte k s[k].toNat = false) : isKey s = false := by
  unfold isKey
  have : ¬ ∀ j (h : j < s.size), keyByte j s[j].toNat = true := fun hh => by rw [hh k hk] at h; cases h
  simp [this]

set_option maxRecDepth 100000 in
set_option maxHeartbeats 1000000 in
theorem isKey_any (s : ByteArray) (w : World) (hs : s.size ≤ maxLen) :
    Calls Tryz.prog 165 #[.string s] w fun e w' => e = .returned (.bool (isKey s)) ∧ w = w' := by
  unfold maxLen at hs
  go_enter Tryz.func165, Tryz.ntmps165
  go_wp2_with fail
  go_loop [3] (fun i => ∃ k : Nat, k ≤ s.size ∧ i = .int .i64 k ∧ Hid (∀ j (h : j < s.size), j < k → keyByte j s[j].toNat = true)) (fun i => s.size - (intOf i).toNat)
  case atStart => exact ⟨0, Nat.zero_le _, rfl, Lib.hid (fun j _ h => absurd h (by omega))⟩
  case round =>
    obtain ⟨k, hk, rfl, hrel⟩ := hrel
    by_cases hlt : k < s.size
    · have hb : s[k].toNat < 256 := s[k].toNat_lt
      have HF := Lib.hid (fun h => isKey_false (k := k) hlt h)
      have HT : Hid (keyByte k s[k].toNat = true → ∀ j (h : j < s.size), j < k + 1 → keyByte j s[j].toNat = true) := Lib.hid (fun h j hj hjk => by
        by_cases e : j = k
        · subst e; exact h
        · exact hrel.out j hj (by omega))
      clear hrel
      go_wp2_with fail
      all_goals first
        | (go_ret; exact ⟨ret_bool (HF.out (by unfold keyByte; generalize s[k].toNat = c at *; simp at *; omega)).symm, rfl⟩)
        | (go_round
           case rel => exact ⟨k + 1, by omega, by go_num, Lib.hid (HT.out (by unfold keyByte; generalize s[k].toNat = c at *; simp at *; omega))⟩
           case measure => simp [intOf]; omega)
    · have : k = s.size := by omega
      subst this
      by_cases h0 : s.size = 0
      · have h1 : s.toList = [] := toList_nil h0
        have HF : Hid (isKey s = false) := Lib.hid (by simp [isKey, h0])
        go_wp2_with fail
        go_ret
        exact ⟨ret_bool HF.out.symm, rfl⟩
      · have h1 : ¬ s.toList = [] := fun h => h0 (size_of_nil h)
        have h2 : s.toList.isEmpty = false := by cases h : s.toList <;> simp_all
        have HF : Hid (isKey s = decide ((s.size : Int) ≤ 40)) := Lib.hid (by
          have a : ∀ j (h : j < s.size), keyByte j s[j].toNat = true := fun j h => hrel.out j h h
          have b : decide (0 < s.size) = true := by simp; omega
          have c : decide ((s.size : Int) ≤ 40) = decide (s.size ≤ 40) := by
            by_cases h : s.size ≤ 40
            · rw [decide_eq_true h, decide_eq_true (by omega)]
            · rw [decide_eq_false h, decide_eq_false (by omega)]
          unfold isKey
          rw [decide_eq_true a, b, c]
          rfl)
        clear hrel
        go_wp2_with fail
        go_ret
        exact ⟨ret_bool HF.out.symm, rfl⟩

theorem outside_any (n lo hi : Int) (w : World) :
    Calls Tryz.prog 79 #[.int .i64 n, .int .i64 lo, .int .i64 hi] w fun e w' => e = .returned (.bool (decide (n < lo) || decide (hi < n))) ∧ w = w' := by
  by_cases h : n < lo
  · go_enter Tryz.func79, Tryz.ntmps79
    go_wp2
    go_ret
    exact ⟨ret_bool (by simp; omega), rfl⟩
  · go_enter Tryz.func79, Tryz.ntmps79
    go_wp2
    go_ret
    exact ⟨ret_bool (by simp; omega), rfl⟩

end Go.Proofs.YtcmfkheohhfpiaaGreatDoor
