/- The stream of numbers: what each of its functions hands out, and what becomes of memory. -/
import Derived.Test.YtcmfkheohhfpiaaGreatDoorMap
import Derived.Test.YtcmfkheohhfpiaaGreatDoorProg
import Derived.WalkKit
import Derived.WalkSpells
import Derived.WalkLawsBesides
import Derived.BigQuiet
import Derived.Deep.QuietTactic
import Derived.Lib.Hide
namespace Go.Proofs.YtcmfkheohhfpiaaGreatDoor
open Go.RowKit Go.Hw

theorem tmod_facts (x n : Int) (h0 : x < 0) (h1 : 1 ≤ n) : -n < x.tmod n ∧ x.tmod n ≤ 0 ∧ (x.tmod n < 0 → x % n = x.tmod n + n) ∧ (0 ≤ x.tmod n → x % n = x.tmod n) := by
  have e : x.tmod n = -((-x) % n) := by
    have := Int.neg_tmod (-x) n
    rw [Int.neg_neg] at this
    rw [this, Int.tmod_eq_emod_of_nonneg (by omega)]
  have hp := Int.emod_nonneg (-x) (show n ≠ 0 by omega)
  have hl := Int.emod_lt_of_pos (-x) (show 0 < n by omega)
  have hq := Int.mul_ediv_add_emod (-x) n
  refine ⟨by omega, by omega, fun h => ?_, fun h => ?_⟩
  · have : x = (x.tmod n + n) + n * (-((-x) / n) - 1) := by
      rw [e, Int.mul_sub, Int.mul_neg]; omega
    conv => lhs; rw [this, Int.add_mul_emod_self_left]
    exact Int.emod_eq_of_lt (by omega) (by omega)
  · have : x = (x.tmod n) + n * (-((-x) / n)) := by
      rw [e, Int.mul_neg]; omega
    conv => lhs; rw [this, Int.add_mul_emod_self_left]
    exact Int.emod_eq_of_lt (by omega) (by omega)
theorem ret_eq {k : IntKind} {a b : Int} (h : a = b) : Ending.returned (.int k a) = .returned (.int k b) := by rw [h]

theorem below_pos (x n : Int) (w : World) (hx : -9223372036854775808 ≤ x) (hx' : x ≤ 9223372036854775807) (h1 : 1 ≤ n) (hn : n ≤ 9223372036854775807) :
    Calls Tryz.prog 51 #[.int .i64 x, .int .i64 n] w fun e w' => e = .returned (.int .i64 (x % n)) ∧ w = w' := by
  have h1' : ¬ n < 1 := by omega
  by_cases h0 : 0 ≤ x
  · have h2 := Int.emod_nonneg x (show n ≠ 0 by omega)
    go_enter Tryz.func51, Tryz.ntmps51
    go_wp2
    go_ret
    exact ⟨rfl, rfl⟩
  · obtain ⟨f1, f2, f3, f4⟩ := tmod_facts x n (by omega) h1
    have F3 := Lib.hid f3
    have F4 := Lib.hid f4
    clear f3 f4
    go_enter Tryz.func51, Tryz.ntmps51
    go_wp2
    · have h5 : x.tmod n < 0 := by assumption
      go_ret
      exact ⟨ret_eq (F3.out h5).symm, rfl⟩
    · have h5 : 0 ≤ x.tmod n := by assumption
      go_ret
      exact ⟨ret_eq (F4.out h5).symm, rfl⟩

/-- Block b holds a stream over the numbers l, of which at_ have been handed out. -/
structure Str (w : World) (b : Nat) (A : Option Addr) (cap : Nat) (l : List Int) (at_ : Int) : Prop where
  cell : w.heap[b]? = some (.cells #[.slice A l.length cap, .int .i64 at_] 25 (0, 0))
  ints : ∀ i, i < l.length → ∃ g off, A = some ⟨g, off, none⟩ ∧ g < b ∧ w.cell? ⟨g, off + i, none⟩ = some (.int .i64 (l.getD i 0))
  fits : ∀ i, -9223372036854775808 ≤ l.getD i 0 ∧ l.getD i 0 ≤ 9223372036854775807
  long : l.length ≤ 17592186044416
  low : 0 ≤ at_
  high : at_ ≤ 1099511627776

/-- The number that is handed out. -/
def drawOf (l : List Int) (at_ n : Int) : Int :=
  if l = [] then ((at_ + 1) * 7919) % n
  else ((l.getD (at_ % l.length).toNat 0) % 1073741824 + (at_ / l.length) * (7919 + at_ % l.length)) % n
theorem draw_low (l : List Int) (at_ n : Int) (h : 1 ≤ n) : 0 ≤ drawOf l at_ n := by
  unfold drawOf; split <;> exact Int.emod_nonneg _ (by omega)
theorem draw_high (l : List Int) (at_ n : Int) (h : 1 ≤ n) : drawOf l at_ n < n := by
  unfold drawOf; split <;> exact Int.emod_lt_of_pos _ (by omega)

theorem Str.keep {w w' : World} {b : Nat} {A : Option Addr} {cap : Nat} {l : List Int} {at_ : Int} (h : Str w b A cap l at_) (hb : w'.heap[b]? = w.heap[b]?)
    (hk : ∀ p : Addr, p.block < b → w'.cell? p = w.cell? p) : Str w' b A cap l at_ :=
  { h with cell := hb.trans h.cell, ints := fun i hi => let ⟨g, off, h1, h2, h3⟩ := h.ints i hi; ⟨g, off, h1, h2, (hk _ h2).trans h3⟩ }
theorem Str.lt {w : World} {b : Nat} {A : Option Addr} {cap : Nat} {l : List Int} {at_ : Int} (h : Str w b A cap l at_) : b < w.heap.size := (Array.getElem?_eq_some_iff.1 h.cell).1
theorem Str.grown {w w' : World} {b : Nat} {A : Option Addr} {cap : Nat} {l : List Int} {at_ : Int} {row : Option Nat} (h : Str w b A cap l at_) (hg : w.grownBy w' row) (hr : ∀ k, row = some k → b < k) : Str w' b A cap l at_ :=
  h.keep (hg.block b h.lt (fun e => by have := hr b e.symm; omega)) fun p hp => World.cell?_of_block (hg.block p.block (by have := h.lt; omega) (fun e => by have := hr _ e.symm; omega))

theorem next_empty (b : Nat) (A : Option Addr) (cap : Nat) (at_ n : Int) (w : World) (h : Str w b A cap [] at_) (h1 : 1 ≤ n) (hn : n ≤ 9223372036854775807) :
    Calls Tryz.prog 27 #[.pointer (some ⟨b, 0, none⟩), .int .i64 n] w fun e w' => e = .returned (.int .i64 (drawOf [] at_ n)) ∧ w' = w.setCell ⟨b, 1, none⟩ (.int .i64 (at_ + 1)) := by
  have c0 : w.cell? ⟨b, 0, none⟩ = some (.slice A 0 cap) := by simp [World.cell?, h.cell]
  have c1 : w.cell? ⟨b, 1, none⟩ = some (.int .i64 at_) := by simp [World.cell?, h.cell]
  have f1 : w.frozen? ⟨b, 1, none⟩ = false := by simp [World.frozen?, h.cell]
  have l1 := h.low
  have l2 := h.high
  clear h
  go_enter Tryz.func27, Tryz.ntmps27
  go_wp2_with (go_at_call 51; refine (below_pos _ _ _ (by omega) (by omega) h1 hn).mono ?_; rintro e w' ⟨rfl, rfl⟩)
  go_ret
  exact ⟨ret_eq (by simp [drawOf]), rfl⟩

theorem round_bound (at_ : Int) (n : Nat) (h0 : 0 ≤ at_) (hn : 0 < n) : 0 ≤ at_ / n ∧ at_ / n ≤ at_ ∧ 0 ≤ at_ % n ∧ at_ % n < n ∧ 0 ≤ (at_ / n) * (7919 + at_ % n) ∧ (at_ / n) * (7919 + at_ % n) ≤ at_ * 7920 := by
  have h1 := Int.ediv_nonneg h0 (show (0 : Int) ≤ n by omega)
  have h2 := Int.ediv_le_self (n : Int) h0
  have h3 := Int.emod_nonneg at_ (show (n : Int) ≠ 0 by omega)
  have h4 := Int.emod_lt_of_pos at_ (show (0 : Int) < n by omega)
  have h5 := Int.mul_ediv_add_emod at_ n
  refine ⟨h1, h2, h3, h4, Int.mul_nonneg h1 (by omega), ?_⟩
  have h6 : (at_ / n) * (at_ % n) ≤ (at_ / n) * n := Int.mul_le_mul_of_nonneg_left (by omega) h1
  rw [Int.mul_add]
  rw [Int.mul_comm (n : Int)] at h5
  omega

set_option maxHeartbeats 400000 in
theorem next_full (b : Nat) (A : Option Addr) (cap : Nat) (l : List Int) (at_ n : Int) (w : World) (h : Str w b A cap l at_) (hl : l ≠ []) (h1 : 1 ≤ n) (hn : n ≤ 9223372036854775807) :
    Calls Tryz.prog 27 #[.pointer (some ⟨b, 0, none⟩), .int .i64 n] w fun e w' => e = .returned (.int .i64 (drawOf l at_ n)) ∧ ∃ k, w' = (w.setCell ⟨b, 1, none⟩ (.int .i64 (at_ + 1))).drewN k := by
  have c0 : w.cell? ⟨b, 0, none⟩ = some (.slice A l.length cap) := by simp [World.cell?, h.cell]
  have c1 : w.cell? ⟨b, 1, none⟩ = some (.int .i64 at_) := by simp [World.cell?, h.cell]
  have f1 : w.frozen? ⟨b, 1, none⟩ = false := by simp [World.frozen?, h.cell]
  have l1 := h.low
  have l2 := h.high
  have l3 := h.long
  have hp : 0 < l.length := List.length_pos_iff.2 hl
  obtain ⟨r1, r2, r3, r4, r5, r6⟩ := round_bound at_ l.length l1 hp
  obtain ⟨m, hm⟩ := Int.eq_ofNat_of_zero_le r3
  have hm' : m < l.length := by omega
  obtain ⟨g, off, rfl, hgb, hc⟩ := h.ints m hm'
  have hb := h.fits m
  generalize hx : l.getD m 0 = x at hc hb
  have hfin : drawOf l at_ n = (x % 1073741824 + (at_ / l.length) * (7919 + at_ % l.length)) % n := by
    unfold drawOf
    rw [if_neg hl, hm, Int.toNat_natCast, hx]
  have HF := Lib.hid hfin
  clear hfin
  have b0 := Int.emod_nonneg x (show (1073741824 : Int) ≠ 0 by omega)
  have b1 := Int.emod_lt_of_pos x (show (0 : Int) < 1073741824 by omega)
  have hcx : w.cell? ⟨g, off + (at_ % (l.length : Int)).toNat, none⟩ = some (.int .i64 x) := by rw [hm, Int.toNat_natCast]; exact hc
  clear h hx
  have Hm := Lib.hid hm
  clear hm
  go_enter Tryz.func27, Tryz.ntmps27
  clear hc
  go_wp2_with fail
  go_quiet (fail)
  go_wp2_with fail
  go_quiet (fail)
  go_wp2_with fail
  refine (below_pos _ _ _ hb.1 hb.2 (by omega) (by omega)).mono ?_
  rintro e w' ⟨rfl, rfl⟩
  go_wp2_with fail
  refine (below_pos _ _ _ (by omega) (by omega) h1 hn).mono ?_
  rintro e w' ⟨rfl, rfl⟩
  go_wp2_with fail
  go_ret
  exact ⟨ret_eq HF.out.symm, _, rfl⟩

theorem next_any (b : Nat) (A : Option Addr) (cap : Nat) (l : List Int) (at_ n : Int) (w : World) (h : Str w b A cap l at_) (h1 : 1 ≤ n) (hn : n ≤ 9223372036854775807) (hh : at_ < 1099511627776) :
    Calls Tryz.prog 27 #[.pointer (some ⟨b, 0, none⟩), .int .i64 n] w fun e w' => e = .returned (.int .i64 (drawOf l at_ n)) ∧ Str w' b A cap l (at_ + 1) ∧ w.grownBy w' (some b) := by
  have hs : ∀ k, Str ((w.setCell ⟨b, 1, none⟩ (.int .i64 (at_ + 1))).drewN k) b A cap l (at_ + 1) ∧ w.grownBy ((w.setCell ⟨b, 1, none⟩ (.int .i64 (at_ + 1))).drewN k) (some b) := by
    intro k
    have hh' : ((w.setCell ⟨b, 1, none⟩ (.int .i64 (at_ + 1))).drewN k).heap = (w.setCell ⟨b, 1, none⟩ (.int .i64 (at_ + 1))).heap := rfl
    refine ⟨{ h with cell := ?_, ints := fun i hi => ?_, low := by have := h.low; omega, high := by omega }, ⟨rfl, rfl, rfl, by rw [hh']; simp [World.setCell], fun i _ hi => ?_⟩⟩
    · rw [hh']
      simp [World.setCell, Array.getElem?_modify, h.cell]
    · obtain ⟨g, off, h1, h2, h3⟩ := h.ints i hi
      refine ⟨g, off, h1, h2, ?_⟩
      have : ((w.setCell ⟨b, 1, none⟩ (.int .i64 (at_ + 1))).drewN k).cell? ⟨g, off + i, none⟩ = (w.setCell ⟨b, 1, none⟩ (.int .i64 (at_ + 1))).cell? ⟨g, off + i, none⟩ := rfl
      rw [this, World.cell?_setCell_other _ _ _ _ (by intro e; injection e; omega)]
      exact h3
    · rw [hh']
      exact Below.heap_setCell w _ _ i (fun e => hi (by rw [e]))
  by_cases hl : l = []
  · subst hl
    exact (next_empty b A cap at_ n w h h1 hn).mono fun e w' ⟨he, hw⟩ => ⟨he, by rw [hw]; exact hs 0⟩
  · exact (next_full b A cap l at_ n w h hl h1 hn).mono fun e w' ⟨he, k, hw⟩ => ⟨he, by rw [hw]; exact hs k⟩

theorem grown_alloc_then {w w' : World} {b : Nat} {o : Obj} (h : (w.alloc o).grownBy w' (some b)) : w.grownBy w' (some b) :=
  (World.grownBy_alloc w o (some b)).andThen h (fun _ h => .inr h)
theorem Str.alloc {w : World} {b : Nat} {A : Option Addr} {cap : Nat} {l : List Int} {at_ : Int} (h : Str w b A cap l at_) (o : Obj) : Str (w.alloc o) b A cap l at_ :=
  h.grown (World.grownBy_alloc w o none) (fun k e => by cases e)

end Go.Proofs.YtcmfkheohhfpiaaGreatDoor
