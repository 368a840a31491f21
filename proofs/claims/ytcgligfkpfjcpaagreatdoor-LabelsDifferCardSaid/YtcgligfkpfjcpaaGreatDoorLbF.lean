/- laneref1.LabelForm at a plain label. -/
import Derived.Test.YtcgligfkpfjcpaaGreatDoorLbZ
import Derived.Test.YtcgligfkpfjcpaaGreatDoorKey2
namespace Go.Proofs.YtcgligfkpfjcpaaGreatDoor
open Go.RowKit Go.Hw Go.Shelf

def lblSet : ByteArray := ⟨#[97, 98, 99, 100, 101, 102, 103, 104, 105, 106, 107, 108, 109, 110, 111, 112, 113, 114, 115, 116, 117, 118, 119, 120, 121, 122, 48, 49, 50, 51, 52, 53, 54, 55, 56, 57, 45]⟩
theorem word_lbl : ∀ n, n < 256 → ((48 ≤ n ∧ n ≤ 57) ∨ (97 ≤ n ∧ n ≤ 122) ∨ n = 45) → lblSet.data.toList.contains (UInt8.ofNat n) = true := by decide +kernel
set_option maxRecDepth 100000 in
set_option maxHeartbeats 1000000 in
theorem labelForm_plain (s : ByteArray) (hp : Plain s.data.toList) (w : World) :
    Calls Tryz.prog 11 #[.string s] w fun e w' => e = .returned (.bool true) ∧ Below w.heap.size w w' := by
  have hsl : s.data.toList.length = s.size := Array.length_toList
  have h1 : s.size ≤ 63 := by rw [← hsl]; exact hp.short
  have h0 : 0 < s.size := by
    have := List.length_pos_iff.2 hp.some_
    omega
  have htp : (⟨(Lib.trimPrefix s.data.toList [95]).toArray⟩ : ByteArray) = s := by
    have hh : Lib.trimPrefix s.data.toList [95] = s.data.toList := by
      have hx := hp.first
      cases hl : s.data.toList with
      | nil => exact absurd hl hp.some_
      | cons b t =>
        rw [hl] at hx
        have hw := hx b rfl
        have : (95 : UInt8) ≠ b := fun e => by subst e; unfold wordB at hw; revert hw; decide
        have hpf : Lib.hasPrefix (b :: t) [95] = false := by
          have : ¬ ([95] : List UInt8) <+: (b :: t) := fun h => by
            obtain ⟨r, hr⟩ := h
            injection hr with h1 _
            exact this h1
          first
            | (rw [Lib.hasPrefix, Bool.eq_false_iff]; exact fun h => this (List.isPrefixOf_iff_prefix.1 h))
            | (unfold Lib.hasPrefix; simpa using this)
        unfold Lib.trimPrefix
        rw [hpf]
        rfl
    rw [hh]
  have hall : allIn s.data.toList lblSet.data.toList = true := by
    unfold allIn
    rw [List.all_eq_true]
    intro b hb
    have := word_lbl b.toNat b.toNat_lt (by
      rcases hp.all b hb with h | h
      · unfold wordB at h; omega
      · subst h; exact .inr (.inr rfl))
    simpa using this
  have htn : Lib.trimS s.data.toList lblSet.data.toList = [] := by
    have := trim_nil s.data.toList lblSet.data.toList
    rw [hall] at this
    exact List.isEmpty_iff.1 this
  have hf : ((s[0].toNat : Int) != 45) = true := by
    have h := hp.first s[0] (by rw [List.head?_eq_getElem?, List.getElem?_eq_getElem (by omega)]; rfl)
    unfold wordB at h
    simp
    omega
  have hlast : ((s[s.size - 1].toNat : Int) != 45) = true := by
    have h := hp.last s[s.size - 1] (by rw [List.getLast?_eq_getElem?, hsl, List.getElem?_eq_getElem (by omega)]; rfl)
    unfold wordB at h
    simp
    omega
  have hne : s.toList.isEmpty = false := by
    rw [ByteArray.toList_eq]
    cases hl : s.data.toList with
    | nil => exact absurd hl hp.some_
    | cons => rfl
  have htr := Tryz.strings_TrimPrefix s ⟨#[95]⟩ w
  have e1 : (⟨(Lib.trimPrefix s.data.toList (⟨#[95]⟩ : ByteArray).data.toList).toArray⟩ : ByteArray) = s := htp
  rw [e1] at htr
  clear e1 htp
  go_enter Tryz.func11, Tryz.ntmps11
  go_wp2_with fail
  refine htr.mono ?_
  rintro e w1 ⟨rfl, rfl⟩
  go_wp2_with fail
  have htc := trim_calls s lblSet w1 (by unfold maxLen; omega) (by decide) (ascii_of_all (by decide))
  rw [htn] at htc
  refine htc.mono ?_
  rintro e w2 ⟨rfl, hb2⟩
  have s1 : IntKind.i64.wrap ((s.size : Int) - 1) = (s.size : Int) - 1 := IntWalk.i64_in _ (by omega)
  have s2 : ((s.size : Int) - 1).toNat = s.size - 1 := by omega
  have s3 : (1 : Int) ≤ (s.size : Int) := by omega
  clear htc htr htn hall
  go_wp2_with fail
  go_ret
  exact ⟨rfl, hb2⟩
end Go.Proofs.YtcgligfkpfjcpaaGreatDoor
