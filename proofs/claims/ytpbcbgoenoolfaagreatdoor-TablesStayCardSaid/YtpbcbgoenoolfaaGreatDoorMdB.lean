/- The plain law of medians: at most half of some numbers lie on each side, and numbers that are moved have it moved. Numbers in memory: slices.IndexFunc, ContainsFunc, Clone; kit.Gcd, Lowest; flow.numbersFault. -/
import Derived.WalkKit
import Derived.Test.YtpbcbgoenoolfaaGreatDoorSrt
import Derived.Test.YtpbcbgoenoolfaaGreatDoorRwB
import Derived.Test.YtpbcbgoenoolfaaGreatDoorKey
namespace Go.Hw

/-- Numbers in order. -/
def srt (l : List Int) : List Int := l.mergeSort (fun x y => decide (x ≤ y))
theorem srt_sorted (l : List Int) : (srt l).Pairwise (· ≤ ·) := by
  have := List.pairwise_mergeSort (le := fun x y : Int => decide (x ≤ y)) (fun a b c h k => by simp at *; omega) (fun a b => by simp; omega) l
  exact this.imp fun h => by simpa using h
theorem srt_perm (l : List Int) : (srt l).Perm l := List.mergeSort_perm l _
theorem srt_length (l : List Int) : (srt l).length = l.length := List.length_mergeSort l
theorem srt_uniq {l s : List Int} (hs : s.Pairwise (· ≤ ·)) (hp : s.Perm l) : srt l = s :=
  ((srt_perm l).trans hp.symm).eq_of_pairwise (le := fun x y : Int => x ≤ y) (fun _ _ _ _ h k => Int.le_antisymm h k) (srt_sorted l) hs
/-- Twice the median. -/
def med (l : List Int) : Int := (srt l).getD ((l.length - 1) / 2) 0 + (srt l).getD (l.length / 2) 0
theorem getD_srt {l : List Int} {i : Nat} (h : i < l.length) : (srt l).getD i 0 = (srt l)[i]'(by rw [srt_length]; exact h) := by
  rw [List.getD_eq_getElem?_getD, List.getElem?_eq_getElem (by rw [srt_length]; exact h)]; rfl
theorem srt_le {l : List Int} {i j : Nat} (hij : i ≤ j) (hj : j < l.length) : (srt l).getD i 0 ≤ (srt l).getD j 0 := by
  rw [getD_srt (by omega), getD_srt hj]
  rcases Nat.lt_or_eq_of_le hij with h | rfl
  · exact List.pairwise_iff_getElem.1 (srt_sorted l) i j (by rw [srt_length]; omega) (by rw [srt_length]; omega) h
  · exact Int.le_refl _
theorem count_srt (l : List Int) (p : Int → Bool) : l.countP p = (srt l).countP p := ((srt_perm l).countP_eq p).symm
theorem countP_zero {l : List Int} {p : Int → Bool} (h : ∀ i, i < l.length → p (l.getD i 0) = false) : l.countP p = 0 := by
  rw [List.countP_eq_zero]
  intro a ha
  obtain ⟨i, hi, rfl⟩ := List.getElem_of_mem ha
  have := h i hi
  rw [List.getD_eq_getElem?_getD, List.getElem?_eq_getElem hi] at this
  simpa using this
/-- At most half of them are less. -/
theorem med_below (l : List Int) (hl : 0 < l.length) : 2 * l.countP (fun n => decide (2 * n < med l)) ≤ l.length := by
  rw [count_srt]
  have hb : l.length / 2 < l.length := by omega
  have hM : med l ≤ 2 * (srt l).getD (l.length / 2) 0 := by
    unfold med
    have := srt_le (l := l) (i := (l.length - 1) / 2) (j := l.length / 2) (by omega) hb
    omega
  have hsplit : (srt l).countP (fun n => decide (2 * n < med l)) = ((srt l).take (l.length / 2)).countP (fun n => decide (2 * n < med l)) + ((srt l).drop (l.length / 2)).countP (fun n => decide (2 * n < med l)) := by
    rw [← List.countP_append, List.take_append_drop]
  have hz : ((srt l).drop (l.length / 2)).countP (fun n => decide (2 * n < med l)) = 0 := by
    apply countP_zero
    intro i hi
    rw [List.length_drop, srt_length] at hi
    have := srt_le (l := l) (i := l.length / 2) (j := l.length / 2 + i) (by omega) (by omega)
    rw [List.getD_eq_getElem?_getD, List.getElem?_drop, ← List.getD_eq_getElem?_getD]
    simp only [decide_eq_false_iff_not]
    omega
  have h1 : ((srt l).take (l.length / 2)).countP (fun n => decide (2 * n < med l)) ≤ l.length / 2 := by
    refine Nat.le_trans List.countP_le_length ?_
    rw [List.length_take]
    omega
  omega
/-- At most half of them are greater. -/
theorem med_above (l : List Int) (hl : 0 < l.length) : 2 * l.countP (fun n => decide (med l < 2 * n)) ≤ l.length := by
  rw [count_srt]
  have hM : 2 * (srt l).getD ((l.length - 1) / 2) 0 ≤ med l := by
    unfold med
    have := srt_le (l := l) (i := (l.length - 1) / 2) (j := l.length / 2) (by omega) (by omega)
    omega
  have hsplit : (srt l).countP (fun n => decide (med l < 2 * n)) = ((srt l).take ((l.length - 1) / 2 + 1)).countP (fun n => decide (med l < 2 * n)) + ((srt l).drop ((l.length - 1) / 2 + 1)).countP (fun n => decide (med l < 2 * n)) := by
    rw [← List.countP_append, List.take_append_drop]
  have hz : ((srt l).take ((l.length - 1) / 2 + 1)).countP (fun n => decide (med l < 2 * n)) = 0 := by
    apply countP_zero
    intro i hi
    rw [List.length_take, srt_length] at hi
    have := srt_le (l := l) (i := i) (j := (l.length - 1) / 2) (by omega) (by omega)
    rw [List.getD_eq_getElem?_getD, List.getElem?_take, if_pos (by omega), ← List.getD_eq_getElem?_getD]
    simp only [decide_eq_false_iff_not]
    omega
  have h1 : ((srt l).drop ((l.length - 1) / 2 + 1)).countP (fun n => decide (med l < 2 * n)) ≤ l.length - ((l.length - 1) / 2 + 1) := by
    refine Nat.le_trans List.countP_le_length ?_
    rw [List.length_drop, srt_length]
    omega
  omega
/-- Numbers that are moved. -/
theorem srt_move (l : List Int) (c : Int) : srt (l.map (· + c)) = (srt l).map (· + c) := by
  refine srt_uniq ?_ ((srt_perm l).map _)
  rw [List.pairwise_map]
  exact (srt_sorted l).imp fun h => by omega
theorem med_move (l : List Int) (c : Int) (hl : 0 < l.length) : med (l.map (· + c)) = med l + 2 * c := by
  have hg : ∀ i, i < l.length → ((srt l).map (· + c)).getD i 0 = (srt l).getD i 0 + c := fun i hi => by
    rw [List.getD_eq_getElem?_getD, List.getD_eq_getElem?_getD, List.getElem?_map, List.getElem?_eq_getElem (by rw [srt_length]; exact hi)]
    rfl
  unfold med
  rw [srt_move, List.length_map, hg _ (by omega), hg _ (by omega)]
  omega
/-- How far each one is from the median, twice. -/
def offs (l : List Int) : List Int := l.map (fun n => max (2 * n - med l) (med l - 2 * n))
theorem offs_move (l : List Int) (c : Int) (hl : 0 < l.length) : offs (l.map (· + c)) = offs l := by
  unfold offs
  rw [med_move l c hl, List.map_map]
  refine List.map_congr_left fun n _ => ?_
  simp only [Function.comp]
  omega
theorem srt_mem {l : List Int} {i : Nat} (h : i < l.length) : (srt l).getD i 0 ∈ l := by
  rw [getD_srt h]
  exact (srt_perm l).mem_iff.1 (List.getElem_mem _)
/-- The median lies between two bounds. -/
theorem med_range {l : List Int} {a b : Int} (hl : 0 < l.length) (h : ∀ x ∈ l, a ≤ x ∧ x ≤ b) : 2 * a ≤ med l ∧ med l ≤ 2 * b := by
  have h1 := h _ (srt_mem (l := l) (i := (l.length - 1) / 2) (by omega))
  have h2 := h _ (srt_mem (l := l) (i := l.length / 2) (by omega))
  unfold med
  omega
end Go.Hw

namespace Go.Proofs.YtpbcbgoenoolfaaGreatDoor
open Go.RowKit Go.Hw Go.Shelf

def IsAt (w : World) (A : Option Addr) (L : List Int) : Prop := ∀ i, i < L.length → ∃ g off, A = some ⟨g, off, none⟩ ∧ g < w.heap.size ∧ w.cell? ⟨g, off + i, none⟩ = some (.int .i64 (L.getD i 0))
theorem IsAt.below {w w' : World} {A : Option Addr} {L : List Int} (h : IsAt w A L) (hb : Below w.heap.size w w') : IsAt w' A L := fun i hi =>
  let ⟨g, off, h1, h2, h3⟩ := h i hi
  ⟨g, off, h1, Nat.lt_of_lt_of_le h2 hb.size, (hb.cell (p := ⟨g, _, none⟩) h2).trans h3⟩
theorem is_of {w : World} {base : Nat} {v : Value} {zs : List Int} (h : IntsOwn w base v zs) : ∃ A cap, v = .slice A zs.length cap ∧ IsAt w A zs := by
  obtain ⟨A, cap, rfl, h1, -⟩ := ints_at h
  refine ⟨A, cap, rfl, fun i hi => ?_⟩
  obtain ⟨g, h2, h3, h4⟩ := h1 i hi
  exact ⟨g, 0, h2, h3, by rw [Nat.zero_add]; exact h4⟩

/-- What is asked of a closure over numbers. -/
def isPred (g : Nat) (lb : Array Value) (p : Int → Bool) (L : List Int) (w : World) : Prop :=
  ∀ (W : World) (e : Int), e ∈ L → Below w.heap.size w W → Calls Tryz.prog g (#[.int .i64 e] ++ lb) W fun en w' => en = .returned (.bool (p e)) ∧ Below W.heap.size W w'
set_option maxRecDepth 100000 in
set_option maxHeartbeats 1000000 in
theorem is_idx (A : Option Addr) (cap : Nat) (L : List Int) (g : Nat) (lb : Array Value) (p : Int → Bool) (w : World) (eg : ∀ args w, (callFunc g args).run Tryz.prog w = .ok (.enter g args) w)
    (h : IsAt w A L) (hl : L.length ≤ 1000000) (hp : isPred g lb p L w) :
    Calls Tryz.prog 151 #[.slice A L.length cap, .func (.func g) #[] lb] w fun e w' => e = .returned (.int .i64 (rwIdx p L)) ∧ Below w.heap.size w w' := by
  go_enter Tryz.func151, Tryz.ntmps151
  go_wp2_with fail
  go_loopw [8] (fun v wr => ∃ k : Nat, k ≤ L.length ∧ v = .int .i64 k ∧ (∀ j, j < k → p (L.getD j 0) = false) ∧ Below w.heap.size w wr) (fun v _ => L.length - (intOf v).toNat)
  case atStart => exact ⟨0, Nat.zero_le _, rfl, fun j hj => by omega, Below.refl _ _⟩
  case round =>
    obtain ⟨k, hk, rfl, hf, hb⟩ := hrel
    have hlr := h.below hb
    by_cases hlt : k < L.length
    · obtain ⟨g5, off, rfl, hgB, c0⟩ := hlr k hlt
      have HCALL := hp wr (L.getD k 0) (rw_mem hlt) hb
      generalize hx : L.getD k 0 = x at *
      have HF := Lib.hid hf
      have HX := Lib.hid hx
      have HB := Lib.hid hb
      clear hf hx hp hb hlr h
      have hd : decide ((k : Int) < (L.length : Int)) = true := by simp; omega
      cases hq : p x
      · rw [hq] at HCALL
        go_wp2_with (go_at_fn g; refine HCALL.mono ?_; rintro e w1 ⟨rfl, hb1⟩)
        go_roundw
        case rel => exact ⟨k + 1, by omega, by go_num, fun j hj => (by
          by_cases e : j = k
          · rw [e, HX.out]; exact hq
          · exact HF.out j (by omega)), HB.out.trans (hb1.mono HB.out.size)⟩
        case measure => simp [intOf]; omega
      · rw [hq] at HCALL
        go_wp2_with (go_at_fn g; refine HCALL.mono ?_; rintro e w1 ⟨rfl, hb1⟩)
        go_ret
        exact ⟨ret_eq (rwIdx_at hlt HF.out (by rw [HX.out]; exact hq)).symm, HB.out.trans (hb1.mono HB.out.size)⟩
    · have : k = L.length := by omega
      subst this
      have HE := Lib.hid (rwIdx_none (p := p) (xs := L) (d := 0) hf)
      clear hf
      go_wp2_with fail
      go_ret
      exact ⟨ret_eq HE.out.symm, hb⟩
set_option maxRecDepth 100000 in
theorem is_any (A : Option Addr) (cap : Nat) (L : List Int) (g : Nat) (lb : Array Value) (p : Int → Bool) (w : World) (eg : ∀ args w, (callFunc g args).run Tryz.prog w = .ok (.enter g args) w)
    (h : IsAt w A L) (hl : L.length ≤ 1000000) (hp : isPred g lb p L w) (hn : ∀ e ∈ L, p e = false) :
    Calls Tryz.prog 101 #[.slice A L.length cap, .func (.func g) #[] lb] w fun e w' => e = .returned (.bool false) ∧ Below w.heap.size w w' := by
  have hi := is_idx A cap L g lb p w eg h hl hp
  have hm : rwIdx p L = -1 := rwIdx_none (d := 0) (fun j hj => hn _ (rw_mem hj))
  rw [hm] at hi
  clear h hp hn hm
  go_enter Tryz.func101, Tryz.ntmps101
  go_wp2_with fail
  refine hi.mono ?_
  rintro e w1 ⟨rfl, hb⟩
  have HB := Lib.hid hb
  clear hi hb
  go_wp2_with fail
  go_ret
  exact ⟨rfl, HB.out⟩

/-! ### numbersFault -/
theorem enters_nums : ∀ args w, (callFunc 102 args).run Tryz.prog w = .ok (.enter 102 args) w := enters_of Tryz.func102 (by kernel_rfl) rfl
set_option maxRecDepth 100000 in
theorem nums_clos (n : Int) (W : World) (hn : 0 ≤ n ∧ n ≤ 2000000000000) :
    Calls Tryz.prog 102 #[.int .i64 n] W fun en w' => en = .returned (.bool false) ∧ Below W.heap.size W w' := by
  have hin : (decide (n < (0 : Int)) || decide (2000000000000 < n)) = false := by simp; omega
  go_enter Tryz.func102, Tryz.ntmps102
  go_wp2_with fail
  refine (outside_any _ _ _ _).mono ?_
  rintro e w3 ⟨rfl, rfl⟩
  rw [hin]
  go_wp2_with fail
  go_ret
  exact ⟨rfl, Below.refl _ _⟩
set_option maxRecDepth 100000 in
theorem numbersFault_any (A : Option Addr) (cap : Nat) (L : List Int) (w : World) (h : IsAt w A L) (h0 : 0 < L.length) (hl : L.length ≤ 1000) (hr : ∀ e ∈ L, 0 ≤ e ∧ e ≤ 2000000000000) :
    Calls Tryz.prog 52 #[.slice A L.length cap] w fun e w' => e = .returned (.int .i64 0) ∧ Below w.heap.size w w' := by
  have hc := is_any A cap L 102 #[] (fun _ => false) w enters_nums h (by omega) (fun W e he _ => nums_clos e W (hr e he)) (fun _ _ => rfl)
  clear h hr
  have hd0 : ((L.length : Int) == 0) = false := by rw [beq_eq_false_iff_ne]; omega
  go_enter Tryz.func52, Tryz.ntmps52
  go_wp2_with fail
  refine hc.mono ?_
  rintro e w1 ⟨rfl, hb⟩
  have HB := Lib.hid hb
  clear hc hb
  go_wp2_with fail
  go_ret
  exact ⟨rfl, HB.out⟩
end Go.Proofs.YtpbcbgoenoolfaaGreatDoor
