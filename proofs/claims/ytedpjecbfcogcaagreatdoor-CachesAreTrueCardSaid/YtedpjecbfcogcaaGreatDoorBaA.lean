/- name.isLetter, isLabel, CheckDomain at names that are right. -/
import Derived.Test.YtedpjecbfcogcaaGreatDoorKey
import Derived.Test.YtedpjecbfcogcaaGreatDoorDistances
import Derived.Test.YtedpjecbfcogcaaGreatDoorBaP
namespace Go.Proofs.YtedpjecbfcogcaaGreatDoor
open Go.RowKit Go.Hw Go.Shelf

/-- A letter or a digit. -/
def letP (n : Nat) : Bool := decide ((97 ≤ n ∧ n ≤ 122) ∨ (48 ≤ n ∧ n ≤ 57))
theorem isLetter_any (c : UInt8) (w : World) : Calls Tryz.prog 55 #[.int .u8 (c.toNat : Int)] w fun e w' => e = .returned (.bool (letP c.toNat)) ∧ w = w' := by
  have hc : c.toNat < 256 := c.toNat_lt
  generalize c.toNat = n at *
  by_cases h1 : 97 ≤ n
  · by_cases h2 : n ≤ 122
    · go_enter Tryz.func55, Tryz.ntmps55
      go_wp2_with fail
      go_ret
      exact ⟨ret_bool (Bool.eq_iff_iff.2 (by unfold letP; simp; omega)), rfl⟩
    · go_enter Tryz.func55, Tryz.ntmps55
      go_wp2_with fail
      go_ret
      exact ⟨ret_bool (Bool.eq_iff_iff.2 (by unfold letP; simp; omega)), rfl⟩
  · by_cases h3 : 48 ≤ n
    · go_enter Tryz.func55, Tryz.ntmps55
      go_wp2_with fail
      go_ret
      exact ⟨ret_bool (Bool.eq_iff_iff.2 (by unfold letP; simp; omega)), rfl⟩
    · go_enter Tryz.func55, Tryz.ntmps55
      go_wp2_with fail
      go_ret
      exact ⟨ret_bool (Bool.eq_iff_iff.2 (by unfold letP; simp; omega)), rfl⟩

/-- A plain label, as a string. -/
structure PlainS (s : ByteArray) : Prop where
  some_ : s.size ≠ 0
  short : s.size ≤ 63
  all : ∀ k (h : k < s.size), letP s[k].toNat = true ∨ s[k].toNat = 45
  first : ∀ h : 0 < s.size, s[0].toNat ≠ 45
  last : ∀ h : s.size - 1 < s.size, s[s.size - 1].toNat ≠ 45
  head : Lib.hasPrefix s.data.toList [95] = false
theorem wordB_dec {b : UInt8} (h : wordB b) : letP b.toNat = true ∧ b.toNat ≠ 45 ∧ b ≠ 95 := by
  unfold wordB at h
  exact ⟨by unfold letP; simp; omega, by omega, fun e => by subst e; simp at h⟩
theorem plainS {x : List UInt8} (h : Plain x) : PlainS (toB x) := by
  have hlen : (toB x).size = x.length := rfl
  have hget : ∀ k (hk : k < (toB x).size), (toB x)[k] = x[k]'hk := fun k hk => by
    show (toB x).data[k] = _
    simp [toB]
    rfl
  have hx : 0 < x.length := List.length_pos_iff.2 h.some_
  refine ⟨by omega, h.short, fun k hk => ?_, fun h0 => ?_, fun h0 => ?_, ?_⟩
  · rw [hget]
    rcases h.all _ (List.getElem_mem hk) with h1 | h1
    · exact .inl (wordB_dec h1).1
    · exact .inr (by rw [h1]; rfl)
  · rw [hget]
    exact (wordB_dec (h.first _ (by rw [List.head?_eq_getElem?, List.getElem?_eq_getElem hx]; rfl))).2.1
  · rw [hget]
    exact (wordB_dec (h.last _ (by rw [List.getLast?_eq_getElem?, List.getElem?_eq_getElem (by omega)]; rfl))).2.1
  · show Lib.hasPrefix x [95] = false
    cases x with
    | nil => simp at hx
    | cons b x =>
      have := (wordB_dec (h.first b rfl)).2.2
      unfold Lib.hasPrefix
      simp [List.isPrefixOf, Ne.symm this]

set_option maxRecDepth 100000 in
set_option maxHeartbeats 1000000 in
theorem isLabel_any (s : ByteArray) (w : World) (hs : PlainS s) : Calls Tryz.prog 59 #[.string s] w fun e w' => e = .returned (.bool true) ∧ w = w' := by
  obtain ⟨h0, h1, ha, hf, hl, hp⟩ := hs
  have HA := Lib.hid ha
  have HP := Lib.hid hp
  have hf' := hf (by omega)
  have hl' := hl (by omega)
  have hcp := Tryz.strings_CutPrefix s ⟨#[95]⟩ w
  have e1 : Lib.hasPrefix s.data.toList (⟨#[95]⟩ : ByteArray).data.toList = false := hp
  rw [e1] at hcp
  clear ha hp e1 hf hl
  go_enter Tryz.func59, Tryz.ntmps59
  go_wp2_with fail
  refine hcp.mono ?_
  rintro e w1 ⟨rfl, rfl⟩
  clear hcp
  go_wp2_with fail
  go_loopw [26] (fun v wr => ∃ k : Nat, k ≤ s.size ∧ v = .int .i64 k ∧ wr = w1) (fun v _ => s.size - (intOf v).toNat)
  case atStart => exact ⟨0, by omega, rfl, rfl⟩
  case round =>
    obtain ⟨k, hk, rfl, rfl⟩ := hrel
    by_cases hlt : k < s.size
    · have hb : s[k].toNat < 256 := s[k].toNat_lt
      have hak := HA.out k hlt
      have hlet := isLetter_any s[k] wr
      have HLET := Lib.hid hlet
      clear hlet
      go_wp2_with fail
      refine HLET.out.mono ?_
      rintro e w2 ⟨rfl, rfl⟩
      rcases hak with h2 | h2
      · rw [h2]
        go_wp2_with fail
        go_roundw
        case rel => exact ⟨k + 1, hlt, by go_num, by first | trivial | rfl⟩
        case measure => simp [intOf]; omega
      · have h3 : letP s[k].toNat = false := by rw [h2]; rfl
        have h4 : ((s[k].toNat : Int) != 45) = false := by rw [h2]; rfl
        rw [h3]
        go_wp2_with fail
        go_roundw
        case rel => exact ⟨k + 1, hlt, by go_num, by first | trivial | rfl⟩
        case measure => simp [intOf]; omega
    · have : k = s.size := by omega
      subst this
      have h2 : ¬ s.toList = [] := fun h => h0 (size_of_nil h)
      have h3 : s.toList.isEmpty = false := by cases h : s.toList <;> simp_all
      have hz : 0 < s.size := by omega
      have e1 : decide ((s.size : Int) ≤ 63) = true := by simp; omega
      have e2 : ((s[0].toNat : Int) != 45) = true := by simp; omega
      have e3 : ((s[s.size - 1].toNat : Int) != 45) = true := by simp; omega
      have s0 : IntKind.i64.wrap ((s.size : Int) - 1) = (s.size : Int) - 1 := IntWalk.i64_in _ (by omega)
      have s1 : 0 ≤ (s.size : Int) - 1 := by omega
      have s2 : ((s.size : Int) - 1).toNat = s.size - 1 := by omega
      have s3 : (s.size : Int) - 1 < (s.size : Int) := by omega
      go_wp2_with fail
      go_ret
      exact ⟨rfl, rfl⟩
/-- Strings in a row, as strings.Split hands them back. -/
theorem strs_cell {w : World} (xs : List (List UInt8)) {k : Nat} (hk : k < xs.length) : (w.alloc (.cells ((xs.map toB).map Value.string).toArray 9)).cell? ⟨w.heap.size, k, none⟩ = some (.string (toB (xs.getD k []))) := by
  have h := heap_alloc_new w (.cells ((xs.map toB).map Value.string).toArray 9)
  simp only [World.cell?, h]
  rw [List.getD_eq_getElem?_getD, List.getElem?_eq_getElem hk]
  simp [hk]
def CdI (w : World) (n : Nat) (v11 : Value) (wr : World) : Prop := ∃ k : Nat, k ≤ n ∧ v11 = .int .i64 k ∧ Below w.heap.size w wr

set_option maxRecDepth 100000 in
set_option maxHeartbeats 1000000 in
theorem checkDomain_any (s : ByteArray) (xs : List (List UInt8)) (m : Int) (w : World) (hm : w.cell? ⟨2, 0, none⟩ = some (.int .i64 m)) (hs : Lib.split s.data.toList [46] = xs) (hx : ∀ x ∈ xs, Plain x) (hz : s.size ≤ 253) :
    Calls Tryz.prog 36 #[.string s] w fun e w' => e = .returned (.int .i64 0) ∧ Below w.heap.size w w' := by
  have hsp := Tryz.strings_Split s ⟨#[46]⟩ m w (by omega) hm (by decide)
  rw [splitB_eq hs, split_len hs] at hsp
  have HX := Lib.hid hx
  have hcells := fun k (hk : k < xs.length) => strs_cell (w := w) xs hk
  have HC := Lib.hid hcells
  have HL : Hid (xs.length ≤ 255) := Lib.hid (by
    have h1 := split_len hs
    have h2 := Lib.countB_le ⟨#[46]⟩ (by decide) s.size s (Nat.le_refl _)
    omega)
  clear hx hcells
  go_enter Tryz.func36, Tryz.ntmps36
  go_wp2_with fail
  refine hsp.mono ?_
  rintro e w1 ⟨rfl, rfl⟩
  have hB1 : Below w.heap.size w (w.alloc (.cells ((xs.map toB).map Value.string).toArray 9)) := (Below.refl _ _).alloc (Nat.le_refl _) _
  have HB1 := Lib.hid hB1
  have hlw : w.heap.size < (w.alloc (.cells ((xs.map toB).map Value.string).toArray 9)).heap.size := by simp
  clear hsp hB1
  generalize World.alloc w _ = W at *
  have hxl := HL.out
  go_wp2_with fail
  go_loopw [11] (fun v11 wr => CdI W xs.length v11 wr) (fun v11 _ => xs.length - (intOf v11).toNat)
  case atStart => exact ⟨0, by omega, rfl, Below.refl _ _⟩
  case round =>
    obtain ⟨k, hk, rfl, hb⟩ := hrel
    by_cases hlt : k < xs.length
    · have c0 := (hb.cell (p := ⟨w.heap.size, k, none⟩) hlw).trans (HC.out k hlt)
      have hp := plainS (HX.out (xs.getD k []) (by rw [List.getD_eq_getElem?_getD, List.getElem?_eq_getElem hlt]; exact List.getElem_mem hlt))
      generalize toB (xs.getD k []) = x at *
      have HPX := Lib.hid hp
      have HB := Lib.hid hb
      clear hp hb
      go_wp2_with fail
      refine (isLabel_any x wr HPX.out).mono ?_
      rintro e w2 ⟨rfl, rfl⟩
      go_wp2_with fail
      go_roundw
      case rel => exact ⟨k + 1, hlt, by go_num, HB.out⟩
      case measure => simp [intOf]; omega
    · have hkk : k = xs.length := by omega
      subst hkk
      go_wp2_with fail
      go_ret
      exact ⟨rfl, HB1.out.trans (hb.mono HB1.out.size)⟩
end Go.Proofs.YtedpjecbfcogcaaGreatDoor
