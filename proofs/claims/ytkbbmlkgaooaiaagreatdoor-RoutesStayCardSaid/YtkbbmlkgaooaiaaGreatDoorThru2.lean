/- route.Through. -/
import Derived.Test.YtkbbmlkgaooaiaaGreatDoorThrough
namespace Go.Proofs.YtkbbmlkgaooaiaaGreatDoor
open Go.RowKit Go.Hw

/-- What a list of links that is right says. -/
theorem code_zero {xs : List Lk} {i : Nat} (h : linkCode xs i = 0) :
    isKey (xs.getD i noLk).a = true ∧ isKey (xs.getD i noLk).b = true ∧ Op.bytesLess (xs.getD i noLk).a.toList (xs.getD i noLk).b.toList = true ∧ 0 ≤ (xs.getD i noLk).m ∧ (xs.getD i noLk).m ≤ 1000000 := by
  unfold linkCode at h
  cases h1 : isKey (xs.getD i noLk).a
  · rw [if_pos h1] at h; simp at h
  · rw [if_neg (by rw [h1]; decide)] at h
    cases h2 : isKey (xs.getD i noLk).b
    · rw [if_pos h2] at h; simp at h
    · rw [if_neg (by rw [h2]; decide)] at h
      unfold strGeq at h
      cases h3 : Op.bytesLess (xs.getD i noLk).a.toList (xs.getD i noLk).b.toList
      · rw [if_pos (by rw [h3]; rfl)] at h; simp at h
      · rw [if_neg (by rw [h3]; decide)] at h
        by_cases h4 : 0 ≤ (xs.getD i noLk).m ∧ (xs.getD i noLk).m ≤ 1000000
        · exact ⟨rfl, rfl, rfl, h4.1, h4.2⟩
        · rw [if_pos h4] at h; simp at h
theorem fault_zero {xs : List Lk} (h : linksFault xs = 0) : xs.length ≤ 500 ∧ ∀ i, i < xs.length → linkCode xs i = 0 := by
  by_cases hl : 500 < xs.length
  · unfold linksFault at h; rw [if_pos hl] at h; simp at h
  · refine ⟨by omega, ?_⟩
    have : ∀ n, n ≤ xs.length → ∀ i, i < n → linkCode xs i = 0 := by
      intro n
      induction n with
      | zero => intro _ i hi; omega
      | succ n ih =>
        intro hn i hi
        by_cases e : i = n
        · subst e
          by_cases hc : linkCode xs i = 0
          · exact hc
          · have := linksFault_at (by omega) (by omega) (ih (by omega)) hc
            rw [h] at this
            exact absurd this.symm hc
        · exact ih (by omega) i (by omega)
    exact this xs.length (Nat.le_refl _)
theorem key_size {s : ByteArray} (h : isKey s = true) : 0 < s.size := by
  unfold isKey at h
  simp at h
  omega
theorem less_ne {a b : ByteArray} (h : Op.bytesLess a.toList b.toList = true) : a ≠ b := by
  rintro rfl
  have : ∀ l : List UInt8, Op.bytesLess l l = false := by
    intro l
    induction l with
    | nil => rfl
    | cons x l ih => unfold Op.bytesLess; simp [ih]
  rw [this] at h
  cases h

theorem LksAt.more {w : World} {B B' : Nat} {A : Option Addr} {xs : List Lk} (h : LksAt w B A xs) (hB : B ≤ B') : LksAt w B' A xs := fun i hi =>
  let ⟨g, off, h1, h2, h3⟩ := h i hi
  ⟨g, off, h1, Nat.lt_of_lt_of_le h2 hB, h3⟩

set_option maxHeartbeats 400000 in
theorem throughX_any (A : Option Addr) (cap : Nat) (xs : List Link) (a b : ByteArray) (w : World) (h : LksAt w w.heap.size A (xs.map lkOf)) (hf : linksFault (xs.map lkOf) = 0) (ha : isKey a = true) (hb : isKey b = true) (hsa : a.size ≤ maxLen) (hsb : b.size ≤ maxLen)
    (hss : ∀ i, ((xs.map lkOf).getD i noLk).a.size ≤ maxLen ∧ ((xs.map lkOf).getD i noLk).b.size ≤ maxLen) :
    Calls Tryz.prog 11 #[.slice A xs.length cap, .string a, .string b] w (ThroughOut w xs a b) := by
  obtain ⟨hl, hc⟩ := fault_zero hf
  have hl' : xs.length ≤ 500 := by simpa using hl
  have hx : ∀ x ∈ xs, isKey x.a = true ∧ isKey x.b = true ∧ Op.bytesLess x.a.toList x.b.toList = true ∧ x.m ≤ 1000000 := by
    intro x hx
    obtain ⟨i, hi, e⟩ := List.getElem_of_mem hx
    have h1 := code_zero (hc i (by simpa using hi))
    have h2 : (xs.map lkOf).getD i noLk = lkOf x := by simp [List.getElem?_eq_getElem hi, e]
    rw [h2] at h1
    exact ⟨h1.1, h1.2.1, h1.2.2.1, by have := h1.2.2.2.2; simp only [lkOf] at this; omega⟩
  have hcl := checkLinks_any A cap (xs.map lkOf) w h (by simp; omega) hss
  rw [List.length_map, hf] at hcl
  go_enter Tryz.func11, Tryz.ntmps11
  go_wp2_with fail
  refine hcl.mono ?_
  rintro e w1 ⟨rfl, hb1⟩
  clear hcl
  go_wp2_with fail
  refine (isKey_any a _ hsa).mono ?_
  rintro e w2 ⟨rfl, rfl⟩
  rw [ha]
  go_wp2_with fail
  refine (isKey_any b _ hsb).mono ?_
  rintro e w2 ⟨rfl, rfl⟩
  rw [hb]
  go_wp2_with fail
  refine (through_any A cap xs a b w1 ((h.below hb1).more hb1.size) hl' (fun x hx' => less_ne (hx x hx').2.2.1) (fun x hx' => (hx x hx').2.2.2) (fun x hx' => ⟨key_size (hx x hx').1, key_size (hx x hx').2.1⟩)).mono ?_
  rintro e w2 ⟨hb2, ⟨rfl, hn⟩ | ⟨v, ts, n, rfl, ho, ht, hsh, hlen⟩⟩
  · have HN := Lib.hid hn
    clear hn
    go_wp2_with fail
    go_ret3
    exact ⟨hb1.trans (hb2.mono hb1.size), .inl ⟨rfl, HN.out⟩⟩
  · have HT := Lib.hid ht
    have HS := Lib.hid hsh
    clear ht hsh
    go_wp2_with fail
    go_ret3
    exact ⟨hb1.trans (hb2.mono hb1.size), .inr ⟨v, ts, n, rfl, own_base ho hb1.size, HT.out, HS.out, hlen⟩⟩
end Go.Proofs.YtkbbmlkgaooaiaaGreatDoor
