/- name.isLabel, CheckDomain, isKind, kit.IsPlain, recordFault at any string: some answer, no change. -/
import Derived.Test.YtedpjecbfcogcaaGreatDoorBaA
import Derived.Test.YtedpjecbfcogcaaGreatDoorCaR
import Derived.Test.YtedpjecbfcogcaaGreatDoorAdB
namespace Go.Proofs.YtedpjecbfcogcaaGreatDoor
open Go.RowKit Go.Hw Go.Shelf

set_option maxRecDepth 100000 in
set_option maxHeartbeats 1000000 in
theorem isLabel_some0 (s : ByteArray) (w : World) (hp : Lib.hasPrefix s.data.toList [95] = false) (hz : s.size ≤ 1000000) : Calls Tryz.prog 59 #[.string s] w fun e w' => ∃ b, e = .returned (.bool b) ∧ w = w' := by
  have hcp := Tryz.strings_CutPrefix s ⟨#[95]⟩ w
  have e1 : Lib.hasPrefix s.data.toList (⟨#[95]⟩ : ByteArray).data.toList = false := hp
  rw [e1] at hcp
  clear e1 hp
  go_enter Tryz.func59, Tryz.ntmps59
  go_wp2_with fail
  refine hcp.mono ?_
  rintro e w1 ⟨rfl, rfl⟩
  clear hcp
  go_wp2_with fail
  go_loopw [26] (fun v wr => ∃ k : Nat, k ≤ s.size ∧ v = .int .i64 k ∧ wr = w1) (fun v _ => s.size - (intOf v).toNat)
  case atStart => exact ⟨0, by omega, rfl, rfl⟩
  case round =>
    obtain ⟨k, hk, rfl, rfl⟩ := hrel
    by_cases hlt : k < s.size
    · have hb : s[k].toNat < 256 := s[k].toNat_lt
      have hlet := isLetter_any s[k] wr
      have HLET := Lib.hid hlet
      clear hlet
      go_wp2_with fail
      refine HLET.out.mono ?_
      rintro e w2 ⟨rfl, rfl⟩
      by_cases h2 : letP s[k].toNat = true
      · rw [h2]
        go_wp2_with fail
        go_roundw
        case rel => exact ⟨k + 1, hlt, by go_num, by first | trivial | rfl⟩
        case measure => simp [intOf]; omega
      · have h3 : letP s[k].toNat = false := by simpa using h2
        rw [h3]
        by_cases h5 : s[k].toNat = 45
        · have h4 : ((s[k].toNat : Int) != 45) = false := by rw [h5]; rfl
          go_wp2_with fail
          go_roundw
          case rel => exact ⟨k + 1, hlt, by go_num, by first | trivial | rfl⟩
          case measure => simp [intOf]; omega
        · have h4 : ((s[k].toNat : Int) != 45) = true := by simp; omega
          go_wp2_with fail
          go_ret
          exact ⟨_, rfl, rfl⟩
    · have : k = s.size := by omega
      subst this
      by_cases h0 : s.size = 0
      · have h3 : s.toList.isEmpty = true := by
          have : s = ByteArray.empty := by
            apply ByteArray.ext
            exact Array.eq_empty_of_size_eq_zero h0
          rw [this, ByteArray.toList_eq]
          rfl
        go_wp2_with fail
        go_ret
        exact ⟨_, rfl, rfl⟩
      · have h3 : s.toList.isEmpty = false := by
          cases h : s.toList with
          | nil => exact absurd (size_of_nil h) h0
          | cons _ _ => rfl
        have hz0 : 0 < s.size := by omega
        have s0 : IntKind.i64.wrap ((s.size : Int) - 1) = (s.size : Int) - 1 := IntWalk.i64_in _ (by omega)
        have s1 : 0 ≤ (s.size : Int) - 1 := by omega
        have s2 : ((s.size : Int) - 1).toNat = s.size - 1 := by omega
        have s3 : (s.size : Int) - 1 < (s.size : Int) := by omega
        by_cases c1 : s.size ≤ 63
        · have e1 : decide ((s.size : Int) ≤ 63) = true := by simp; omega
          by_cases c2 : s[0].toNat = 45
          · have e2 : ((s[0].toNat : Int) != 45) = false := by rw [c2]; rfl
            go_wp2_with fail
            go_ret
            exact ⟨_, rfl, rfl⟩
          · have e2 : ((s[0].toNat : Int) != 45) = true := by simp; omega
            go_wp2_with fail
            go_ret
            exact ⟨_, rfl, rfl⟩
        · have e1 : decide ((s.size : Int) ≤ 63) = false := by simp; omega
          go_wp2_with fail
          go_ret
          exact ⟨_, rfl, rfl⟩

theorem trimP_le (l p : List UInt8) : (⟨(Lib.trimPrefix l p).toArray⟩ : ByteArray).size ≤ l.length := by
  show (Lib.trimPrefix l p).toArray.size ≤ l.length
  rw [List.size_toArray]
  unfold Lib.trimPrefix
  split
  · rw [List.length_drop]; exact Nat.sub_le _ _
  · exact Nat.le_refl _
set_option maxRecDepth 100000 in
set_option maxHeartbeats 1000000 in
theorem isLabel_some (s : ByteArray) (w : World) (hz : s.size ≤ 1000000) : Calls Tryz.prog 59 #[.string s] w fun e w' => ∃ b, e = .returned (.bool b) ∧ w = w' := by
  cases hp : Lib.hasPrefix s.data.toList [95]
  · exact isLabel_some0 s w hp hz
  · have hcp := Tryz.strings_CutPrefix s ⟨#[95]⟩ w
    have e1 : Lib.hasPrefix s.data.toList (⟨#[95]⟩ : ByteArray).data.toList = true := hp
    rw [e1] at hcp
    have hsz : (⟨(Lib.trimPrefix s.data.toList (⟨#[95]⟩ : ByteArray).data.toList).toArray⟩ : ByteArray).size ≤ 1000000 := by
      have hs : s.data.toList.length = s.size := Array.length_toList
      exact Nat.le_trans (trimP_le _ _) (by omega)
    generalize (⟨(Lib.trimPrefix s.data.toList (⟨#[95]⟩ : ByteArray).data.toList).toArray⟩ : ByteArray) = r at *
    have hhp := fun w => Tryz.strings_HasPrefix r ⟨#[95]⟩ w
    have hrec := fun w h => isLabel_some0 r w h hsz
    clear hp e1 hsz
    go_enter Tryz.func59, Tryz.ntmps59
    go_wp2_with fail
    refine hcp.mono ?_
    rintro e w1 ⟨rfl, rfl⟩
    clear hcp
    go_wp2_with fail
    refine (hhp w1).mono ?_
    rintro e w2 ⟨rfl, rfl⟩
    cases hq : Lib.hasPrefix r.data.toList (⟨#[95]⟩ : ByteArray).data.toList
    · have hr := hrec w2 hq
      clear hrec hhp hq
      go_wp2_with fail
      refine hr.mono ?_
      rintro e w3 ⟨b, rfl, rfl⟩
      cases b
      · go_wp2_with fail
        go_ret
        exact ⟨_, rfl, rfl⟩
      · go_wp2_with fail
        go_ret
        exact ⟨_, rfl, rfl⟩
    · clear hrec hhp hq
      go_wp2_with fail
      go_ret
      exact ⟨_, rfl, rfl⟩

theorem splitK_le (sep : List UInt8) (save : Nat) : ∀ (k : Nat) (l : List UInt8), ∀ x ∈ Lib.splitK sep save k l, x.length ≤ l.length
  | 0, l, x, h => by
    simp only [Lib.splitK, List.mem_singleton] at h
    rw [h]
    exact Nat.le_refl _
  | k + 1, l, x, h => by
    unfold Lib.splitK at h
    split at h
    · simp only [List.mem_singleton] at h
      rw [h]
      exact Nat.le_refl _
    · rcases List.mem_cons.1 h with h | h
      · rw [h, List.length_take]; omega
      · have := splitK_le sep save k _ x h
        rw [List.length_drop] at this
        omega
theorem split_part_le {l : List UInt8} {sep x : List UInt8} (h : x ∈ Lib.split l sep) : x.length ≤ l.length := splitK_le sep 0 _ l x h

set_option maxRecDepth 100000 in
set_option maxHeartbeats 1000000 in
theorem checkDomain_some (s : ByteArray) (m : Int) (w : World) (hm : w.cell? ⟨2, 0, none⟩ = some (.int .i64 m)) (hz : s.size ≤ 1000000) :
    Calls Tryz.prog 36 #[.string s] w fun e w' => ∃ c, e = .returned (.int .i64 c) ∧ Below w.heap.size w w' := by
  by_cases h253 : s.size ≤ 253
  · obtain ⟨xs, hs⟩ : ∃ xs, Lib.split s.data.toList [46] = xs := ⟨_, rfl⟩
    have hsp := Tryz.strings_Split s ⟨#[46]⟩ m w (by omega) hm (by decide)
    have hpart : ∀ k, (toB (xs.getD k [])).size ≤ 1000000 := by
      intro k
      by_cases hk : k < xs.length
      · have h1 : ∀ x ∈ xs, x.length ≤ s.data.toList.length := by
          intro x hx
          rw [← hs] at hx
          exact split_part_le hx
        have h2 := h1 (xs.getD k []) (rw_mem hk)
        have h3 : s.data.toList.length = s.size := Array.length_toList
        show (xs.getD k []).length ≤ 1000000
        omega
      · rw [List.getD_eq_getElem?_getD, List.getElem?_eq_none (by omega)]
        show (0 : Nat) ≤ 1000000
        omega
    rw [splitB_eq hs, split_len hs] at hsp
    have HP := Lib.hid hpart
    have hcells := fun k (hk : k < xs.length) => strs_cell (w := w) xs hk
    have HC := Lib.hid hcells
    have HL : Hid (xs.length ≤ 255) := Lib.hid (by
      have h1 := split_len hs
      have h2 := Lib.countB_le ⟨#[46]⟩ (by decide) s.size s (Nat.le_refl _)
      omega)
    clear hcells hpart
    go_enter Tryz.func36, Tryz.ntmps36
    go_wp2_with fail
    refine hsp.mono ?_
    rintro e w1 ⟨rfl, rfl⟩
    have hB1 : Below w.heap.size w (w.alloc (.cells ((xs.map toB).map Value.string).toArray 9)) := (Below.refl _ _).alloc (Nat.le_refl _) _
    have HB1 := Lib.hid hB1
    have hlw : w.heap.size < (w.alloc (.cells ((xs.map toB).map Value.string).toArray 9)).heap.size := by simp
    clear hsp hB1
    generalize World.alloc w _ = W at *
    have hxl := HL.out
    go_wp2_with fail
    go_loopw [11] (fun v11 wr => CdI W xs.length v11 wr) (fun v11 _ => xs.length - (intOf v11).toNat)
    case atStart => exact ⟨0, by omega, rfl, Below.refl _ _⟩
    case round =>
      obtain ⟨k, hk, rfl, hb⟩ := hrel
      by_cases hlt : k < xs.length
      · have c0 := (hb.cell (p := ⟨w.heap.size, k, none⟩) hlw).trans (HC.out k hlt)
        have hp := HP.out k
        generalize toB (xs.getD k []) = x at *
        have HPX := Lib.hid hp
        have HB := Lib.hid hb
        clear hp hb
        go_wp2_with fail
        refine (isLabel_some x wr HPX.out).mono ?_
        rintro e w2 ⟨b, rfl, rfl⟩
        cases b
        · go_wp2_with fail
          go_ret
          exact ⟨_, rfl, HB1.out.trans (HB.out.mono HB1.out.size)⟩
        · go_wp2_with fail
          go_roundw
          case rel => exact ⟨k + 1, hlt, by go_num, HB.out⟩
          case measure => simp [intOf]; omega
      · have hkk : k = xs.length := by omega
        subst hkk
        go_wp2_with fail
        go_ret
        exact ⟨_, rfl, HB1.out.trans (hb.mono HB1.out.size)⟩
  · have hd : decide ((s.size : Int) > 253) = true := by simp; omega
    go_enter Tryz.func36, Tryz.ntmps36
    go_wp2_with fail
    go_ret
    exact ⟨_, rfl, Below.refl _ _⟩

/-- The kinds of records. -/
def isKindB (k : Int) : Bool := decide (k = 1 ∨ k = 5 ∨ k = 12 ∨ k = 16 ∨ k = 28)
set_option maxRecDepth 100000 in
set_option maxHeartbeats 400000 in
theorem isKind_any (k : Int) (w : World) : Calls Tryz.prog 37 #[.int .i64 k] w fun e w' => e = .returned (.bool (isKindB k)) ∧ w = w' := by
  by_cases h1 : k = 1
  · subst h1
    go_enter Tryz.func37, Tryz.ntmps37
    go_wp2_with fail
    go_ret
    exact ⟨rfl, rfl⟩
  by_cases h2 : k = 5
  · subst h2
    go_enter Tryz.func37, Tryz.ntmps37
    go_wp2_with fail
    go_ret
    exact ⟨rfl, rfl⟩
  by_cases h3 : k = 12
  · subst h3
    go_enter Tryz.func37, Tryz.ntmps37
    go_wp2_with fail
    go_ret
    exact ⟨rfl, rfl⟩
  by_cases h4 : k = 16
  · subst h4
    go_enter Tryz.func37, Tryz.ntmps37
    go_wp2_with fail
    go_ret
    exact ⟨rfl, rfl⟩
  by_cases h5 : k = 28
  · subst h5
    go_enter Tryz.func37, Tryz.ntmps37
    go_wp2_with fail
    go_ret
    exact ⟨rfl, rfl⟩
  have e1 : (k == 1) = false := by simpa using h1
  have e2 : (k == 5) = false := by simpa using h2
  have e3 : (k == 12) = false := by simpa using h3
  have e4 : (k == 16) = false := by simpa using h4
  have e5 : (k == 28) = false := by simpa using h5
  go_enter Tryz.func37, Tryz.ntmps37
  go_wp2_with fail
  go_ret
  exact ⟨ret_bool (by unfold isKindB; simp; omega), rfl⟩
def hasAddrB (k : Int) : Bool := k == 1 || k == 28
def hasNameB (k : Int) : Bool := k == 5 || k == 12
theorem hasAddr_any (k : Int) (w : World) : Calls Tryz.prog 39 #[.int .i64 k] w fun e w' => e = .returned (.bool (hasAddrB k)) ∧ w = w' := by
  by_cases h1 : k = 1
  · subst h1
    go_enter Tryz.func39, Tryz.ntmps39
    go_wp2_with fail
    go_ret
    exact ⟨rfl, rfl⟩
  have e1 : (k == 1) = false := by simpa using h1
  go_enter Tryz.func39, Tryz.ntmps39
  go_wp2_with fail
  go_ret
  exact ⟨ret_bool (by unfold hasAddrB; rw [e1]; rfl), rfl⟩
theorem hasName_any (k : Int) (w : World) : Calls Tryz.prog 41 #[.int .i64 k] w fun e w' => e = .returned (.bool (hasNameB k)) ∧ w = w' := by
  by_cases h1 : k = 5
  · subst h1
    go_enter Tryz.func41, Tryz.ntmps41
    go_wp2_with fail
    go_ret
    exact ⟨rfl, rfl⟩
  have e1 : (k == 5) = false := by simpa using h1
  go_enter Tryz.func41, Tryz.ntmps41
  go_wp2_with fail
  go_ret
  exact ⟨ret_bool (by unfold hasNameB; rw [e1]; rfl), rfl⟩
theorem bare_some (s : ByteArray) (w : World) (hz : s.size ≤ 1000000) : Calls Tryz.prog 38 #[.string s] w fun e w' => ∃ r : ByteArray, e = .returned (.string r) ∧ r.size ≤ 1000000 ∧ w = w' := by
  have h := Tryz.strings_TrimPrefix s ⟨#[42, 46]⟩ w
  have hsz : (⟨(Lib.trimPrefix s.data.toList (⟨#[42, 46]⟩ : ByteArray).data.toList).toArray⟩ : ByteArray).size ≤ 1000000 := by
    have hs : s.data.toList.length = s.size := Array.length_toList
    exact Nat.le_trans (trimP_le _ _) (by omega)
  generalize (⟨(Lib.trimPrefix s.data.toList (⟨#[42, 46]⟩ : ByteArray).data.toList).toArray⟩ : ByteArray) = r at *
  go_enter Tryz.func38, Tryz.ntmps38
  go_wp2_with fail
  refine h.mono ?_
  rintro e w1 ⟨rfl, rfl⟩
  go_wp2_with fail
  go_ret
  exact ⟨r, rfl, hsz, rfl⟩

/-- A short string of plain bytes. -/
def Asc8 (s : ByteArray) : Prop := s.size ≤ 8 ∧ ∀ k (h : k < s.size), s[k].toNat < 128
theorem asc8_tail {t : ByteArray} (h : Asc8 t) (_h0 : 0 < t.size) : Asc8 (t.extract 1 t.size) := by
  have hs : (t.extract 1 t.size).size = t.size - 1 := by simp
  refine ⟨by rw [hs]; have := h.1; omega, fun k hk => ?_⟩
  have hk' : k < t.size - 1 := by rw [hs] at hk; exact hk
  have := h.2 (1 + k) (by omega)
  rw [ByteArray.getElem_extract]
  exact this
set_option maxRecDepth 100000 in
set_option maxHeartbeats 1000000 in
theorem valid_short (s : ByteArray) (w : World) (h : Asc8 s) : Calls Tryz.prog 61 #[.string s] w fun e w' => e = .returned (.bool true) ∧ Below w.heap.size w w' := by
  go_enter Tryz.func61, Tryz.ntmps61
  go_wp2_with fail
  go_loopw [0] (fun v wr => ∃ t : ByteArray, v = .string t ∧ Asc8 t ∧ wr = w) (fun v _ => match v with | .string t => t.size | _ => 0)
  case atStart => exact ⟨s, rfl, h, rfl⟩
  case round =>
    obtain ⟨t, rfl, ht, rfl⟩ := hrel
    have ht8 := ht.1
    by_cases h0 : 0 < t.size
    · have hd0 : decide ((t.size : Int) > 0) = true := by simp; omega
      have hd8 : decide ((t.size : Int) > 8) = false := by simp; omega
      have hb : t[0].toNat < 128 := ht.2 0 h0
      have hd1 : decide ((t[0].toNat : Int) < 128) = true := by simp; omega
      have hx := asc8_tail ht h0
      have hxs : (t.extract 1 t.size).size = t.size - 1 := by simp
      have HX := Lib.hid hx
      have HXS := Lib.hid hxs
      clear hx hxs ht h
      go_wp2_with fail
      go_roundw
      case rel => exact ⟨_, rfl, HX.out, by first | trivial | rfl⟩
      case measure =>
        have := HXS.out
        show (t.extract 1 t.size).size < t.size
        omega
    · have hd0 : decide ((t.size : Int) > 0) = false := decide_eq_false (by omega)
      go_wp2_with fail
      go_ret
      exact ⟨rfl, Below.refl _ _⟩
end Go.Proofs.YtedpjecbfcogcaaGreatDoor
