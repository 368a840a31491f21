/- laneref2.Key and what it calls. -/
import Derived.Test.YtkbbmlkgaooaiaaGreatDoorKey
namespace Go.Proofs.YtkbbmlkgaooaiaaGreatDoor
open Go.RowKit Go.Hw Go.Shelf

theorem in2_any (n lo hi : Int) (w : World) :
    Calls Tryz.prog 53 #[.int .i64 n, .int .i64 lo, .int .i64 hi] w fun e w' => e = .returned (.bool (decide (lo ≤ n) && decide (n ≤ hi))) ∧ w = w' := by
  by_cases h : lo ≤ n
  · go_enter Tryz.func53, Tryz.ntmps53
    go_wp2
    go_ret
    exact ⟨ret_bool (by simp; omega), rfl⟩
  · go_enter Tryz.func53, Tryz.ntmps53
    go_wp2
    go_ret
    exact ⟨ret_bool (by simp; omega), rfl⟩
def allIn (l cs : List UInt8) : Bool := l.all (cs.contains ·)
theorem dropWhile_all {l : List UInt8} {p : UInt8 → Bool} : l.dropWhile p = [] ↔ l.all p = true := by
  induction l with
  | nil => simp
  | cons a l ih =>
    rw [List.dropWhile_cons]
    by_cases h : p a = true
    · simp only [h, if_true, ih, List.all_cons, Bool.true_and]
    · simp [h]
theorem trim_nil (l cs : List UInt8) : (Lib.trimS l cs).isEmpty = allIn l cs := by
  unfold Lib.trimS Lib.trimLeftS Lib.trimRightS allIn
  rw [Bool.eq_iff_iff, List.isEmpty_iff, dropWhile_all]
  constructor
  · intro h
    rw [List.all_eq_true] at h
    have h2 : l.reverse.dropWhile (cs.contains ·) = [] := by
      cases hd : l.reverse.dropWhile (cs.contains ·) with
      | nil => rfl
      | cons a r =>
        rw [hd] at h
        have h3 := h a (by simp)
        have := List.head?_dropWhile_not (cs.contains ·) l.reverse
        rw [hd] at this
        simp at this h3
        exact absurd h3 this
    rw [dropWhile_all, List.all_reverse] at h2
    exact h2
  · intro h
    have : l.reverse.dropWhile (cs.contains ·) = [] := by rw [dropWhile_all, List.all_reverse]; exact h
    rw [this]
    rfl

theorem Tryz.infoSet : (Tryz.prog.info? 167).map (fun i => (i.zero, i.size)) = some (some (.agg (Array.replicate 256 (.bool false))), 256) := by kernel_rfl
theorem trim_calls (s cutset : ByteArray) (w : World) (hs : s.size ≤ maxLen) (hcs : cutset.size < 4294967281) (hascii : ∀ (j : Nat) b, cutset.data.toList[j]? = some b → b.toNat < 128) :
    Calls Tryz.prog 79 #[.string s, .string cutset] w fun e w' => e = .returned (.string ⟨(Lib.trimS s.data.toList cutset.data.toList).toArray⟩) ∧ Below w.heap.size w w' :=
  Any.strings_Trim_laid Tryz.lays160 Tryz.infoSet s cutset w hs hcs hascii
theorem only_any (s cutset : ByteArray) (w : World) (hs : s.size ≤ maxLen) (hcs : cutset.size < 4294967281) (hascii : ∀ (j : Nat) b, cutset.data.toList[j]? = some b → b.toNat < 128) :
    Calls Tryz.prog 57 #[.string s, .string cutset] w fun e w' => e = .returned (.bool (allIn s.data.toList cutset.data.toList)) ∧ Below w.heap.size w w' := by
  have h1 := trim_nil s.data.toList cutset.data.toList
  go_enter Tryz.func57, Tryz.ntmps57
  go_wp2_with fail
  refine (trim_calls s cutset _ hs hcs hascii).mono ?_
  rintro e w' ⟨rfl, hb⟩
  generalize Lib.trimS s.data.toList cutset.data.toList = t at *
  have H1 := Lib.hid h1
  clear h1
  go_wp2_with fail
  go_ret
  refine ⟨ret_bool ?_, hb⟩
  rw [← H1.out]

def smallSet : ByteArray := ⟨#[97, 98, 99, 100, 101, 102, 103, 104, 105, 106, 107, 108, 109, 110, 111, 112, 113, 114, 115, 116, 117, 118, 119, 120, 121, 122]⟩
def bigSet : ByteArray := ⟨#[97, 98, 99, 100, 101, 102, 103, 104, 105, 106, 107, 108, 109, 110, 111, 112, 113, 114, 115, 116, 117, 118, 119, 120, 121, 122, 48, 49, 50, 51, 52, 53, 54, 55, 56, 57, 45, 95]⟩
theorem small_byte : ∀ n, n < 256 → smallSet.data.toList.contains (UInt8.ofNat n) = keyByte 0 n := by decide +kernel
theorem big_byte : ∀ n, n < 256 → bigSet.data.toList.contains (UInt8.ofNat n) = keyByte 1 n := by decide +kernel
theorem small_of (c : UInt8) : smallSet.data.toList.contains c = keyByte 0 c.toNat := by
  have := small_byte c.toNat c.toNat_lt
  rwa [UInt8.ofNat_toNat] at this
theorem big_of (c : UInt8) : bigSet.data.toList.contains c = keyByte 1 c.toNat := by
  have := big_byte c.toNat c.toNat_lt
  rwa [UInt8.ofNat_toNat] at this
theorem keyByte_pos {j c : Nat} (h : 0 < j) : keyByte j c = keyByte 1 c := by unfold keyByte; simp [h]
theorem keyByte_zero {c : Nat} (h : keyByte 0 c = true) : keyByte 1 c = true := by
  unfold keyByte at *; simp at *; omega
theorem isKey_parts (s : ByteArray) (h1 : 1 ≤ s.size) (h2 : s.size ≤ 40) :
    isKey s = (allIn (s.extract 0 1).data.toList smallSet.data.toList && allIn s.data.toList bigSet.data.toList) := by
  have e1 : (s.extract 0 1).data.toList = [s[0]] := by
    have : (s.extract 0 1).data = s.data.extract 0 1 := by simp
    rw [this, Array.toList_extract]
    obtain ⟨⟨l⟩⟩ := s
    cases l with
    | nil => simp [ByteArray.size] at h1
    | cons a r => rfl
  rw [e1]
  have hb : allIn [s[0]] smallSet.data.toList = keyByte 0 s[0].toNat := by simp only [allIn, List.all_cons, List.all_nil, Bool.and_true]; exact small_of _
  rw [hb]
  unfold isKey
  have a1 : decide (0 < s.size) = true := by simp; omega
  have a2 : decide (s.size ≤ 40) = true := by simp; omega
  rw [a1, a2, Bool.and_true, Bool.and_true, Bool.eq_iff_iff, decide_eq_true_iff, Bool.and_eq_true]
  have hl : ∀ j (h : j < s.size), s.data.toList[j]'(by simpa using h) = s[j] := fun j h => rfl
  constructor
  · intro h
    refine ⟨h 0 (by omega), ?_⟩
    unfold allIn
    rw [List.all_eq_true]
    intro x hx
    obtain ⟨j, hj, e⟩ := List.getElem_of_mem hx
    have hj' : j < s.size := by simpa using hj
    rw [hl j hj'] at e
    rw [big_of, ← e]
    have := h j hj'
    by_cases h0 : j = 0
    · subst h0; exact keyByte_zero this
    · rwa [keyByte_pos (by omega)] at this
  · rintro ⟨g1, g2⟩ j hj
    by_cases h0 : j = 0
    · subst h0; exact g1
    · rw [keyByte_pos (by omega), ← big_of]
      unfold allIn at g2
      rw [List.all_eq_true] at g2
      exact g2 _ (by rw [← hl j hj]; exact List.getElem_mem _)

set_option maxRecDepth 100000 in
set_option maxHeartbeats 1000000 in
theorem key_any (s : ByteArray) (w : World) (hs : s.size ≤ maxLen) :
    Calls Tryz.prog 27 #[.string s] w fun e w' => e = .returned (.bool (isKey s)) ∧ Below w.heap.size w w' := by
  have hs' := hs
  unfold maxLen at hs'
  by_cases hr : 1 ≤ s.size ∧ s.size ≤ 40
  · have hfin := isKey_parts s hr.1 hr.2
    have HF := Lib.hid hfin
    clear hfin
    obtain ⟨r1, r2⟩ := hr
    have hin : (decide ((1 : Int) ≤ (s.size : Int)) && decide ((s.size : Int) ≤ 40)) = true := by simp; omega
    go_enter Tryz.func27, Tryz.ntmps27
    go_wp2_with fail
    refine (in2_any _ _ _ _).mono ?_
    rintro e w' ⟨rfl, rfl⟩
    rw [hin]
    clear hin
    have hsm : (s.extract 0 1).size ≤ maxLen := by unfold maxLen; simp; omega
    cases hb : allIn (s.extract 0 1).data.toList smallSet.data.toList
    · go_wp2_with fail
      refine (only_any (s.extract 0 1) smallSet _ hsm (by decide) (ascii_of_all (by decide))).mono ?_
      rintro e w1 ⟨rfl, hb1⟩
      have HF2 : Hid (isKey s = false) := Lib.hid (by rw [HF.out, hb]; rfl)
      rw [hb]
      clear hb
      go_wp2_with fail
      go_ret
      exact ⟨ret_bool HF2.out.symm, hb1⟩
    · go_wp2_with fail
      refine (only_any (s.extract 0 1) smallSet _ hsm (by decide) (ascii_of_all (by decide))).mono ?_
      rintro e w1 ⟨rfl, hb1⟩
      have HF2 : Hid (isKey s = allIn s.data.toList bigSet.data.toList) := Lib.hid (by rw [HF.out, hb]; rfl)
      rw [hb]
      clear hb
      go_wp2_with fail
      refine (only_any s bigSet _ hs (by decide) (ascii_of_all (by decide))).mono ?_
      rintro e w2 ⟨rfl, hb2⟩
      go_wp2_with fail
      go_ret
      exact ⟨ret_bool HF2.out.symm, hb1.trans (hb2.mono hb1.size)⟩
  · have hfin : isKey s = false := by unfold isKey; simp; omega
    have HF := Lib.hid hfin
    clear hfin
    have hin : (decide ((1 : Int) ≤ (s.size : Int)) && decide ((s.size : Int) ≤ 40)) = false := by simp; omega
    go_enter Tryz.func27, Tryz.ntmps27
    go_wp2_with fail
    refine (in2_any _ _ _ _).mono ?_
    rintro e w' ⟨rfl, rfl⟩
    rw [hin]
    clear hin
    go_wp2_with fail
    go_ret
    exact ⟨ret_bool HF.out.symm, Below.refl _ _⟩
end Go.Proofs.YtkbbmlkgaooaiaaGreatDoor
