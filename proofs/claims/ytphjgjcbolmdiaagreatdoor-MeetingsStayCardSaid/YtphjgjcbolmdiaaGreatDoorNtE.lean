/- Translators in memory: moments, how many entries last, the next port. -/
import Derived.Test.YtphjgjcbolmdiaaGreatDoorNtD
namespace Go.Proofs.YtphjgjcbolmdiaaGreatDoor
open Go.RowKit Go.Hw

/-- A translator's object. -/
def trObj (n : NatC) (now next : Int) (lv : Value) : Obj :=
  .cells #[.int .i64 n.maps, .int .i64 n.lets, .int .i64 n.timeout, .int .i64 n.first, .int .i64 n.ports, .bool n.six, .int .u64 n.hi, .int .u64 n.lo, .int .i64 now, .int .i64 next, lv] 87 (0, 0)
theorem tr_cell {w : World} {T : Nat} {n : NatC} {now next : Int} {lv : Value} (h : w.heap[T]? = some (trObj n now next lv)) (i : Nat) :
    w.cell? ⟨T, i, none⟩ = #[.int .i64 n.maps, .int .i64 n.lets, .int .i64 n.timeout, .int .i64 n.first, .int .i64 n.ports, .bool n.six, .int .u64 n.hi, .int .u64 n.lo, .int .i64 now, .int .i64 next, lv][i]? := by
  simp [World.cell?, h, trObj]
theorem tr_lt {w : World} {T : Nat} {n : NatC} {now next : Int} {lv : Value} (h : w.heap[T]? = some (trObj n now next lv)) : T < w.heap.size := (Array.getElem?_eq_some_iff.1 h).1
theorem tr_below {w w' : World} {T : Nat} {n : NatC} {now next : Int} {lv : Value} (h : w.heap[T]? = some (trObj n now next lv)) (hb : Below w.heap.size w w') : w'.heap[T]? = some (trObj n now next lv) := (hb.block T (tr_lt h)).trans h

theorem belowQ {B : Nat} {a w : World} (h : Below B a w) (n : Nat) : Below B a (w.drewN n) := ⟨h.os, h.tape, h.output, h.size, h.block⟩
theorem isMoment_ok (n : Int) (w : World) (h0 : 0 ≤ n) (h1 : n ≤ 1000) :
    Calls Tryz.prog 91 #[.int .i64 n] w fun e w' => e = .returned (.bool true) ∧ w = w' := by
  have e : decide (n < 345686400) = true := by simp; omega
  go_enter Tryz.func91, Tryz.ntmps91
  go_wp2
  go_ret
  exact ⟨rfl, rfl⟩
theorem momentFault_ok (n : Int) (w : World) (h0 : 0 ≤ n) (h1 : n ≤ 1000) :
    Calls Tryz.prog 61 #[.int .i64 n] w fun e w' => e = .returned (.int .i64 0) ∧ w = w' := by
  go_enter Tryz.func61, Tryz.ntmps61
  go_wp2_with fail
  refine (isMoment_ok _ _ h0 h1).mono ?_
  rintro e w' ⟨rfl, rfl⟩
  go_wp2_with fail
  go_ret
  exact ⟨rfl, rfl⟩
theorem timeFault_ok (T : Nat) (n : NatC) (now next : Int) (lv : Value) (at_ : Int) (w : World) (h : w.heap[T]? = some (trObj n now next lv)) (h0 : now ≤ at_) (h1 : 0 ≤ at_) (h2 : at_ ≤ 1000) :
    Calls Tryz.prog 30 #[.pointer (some ⟨T, 0, none⟩), .int .i64 at_] w fun e w' => e = .returned (.int .i64 0) ∧ w = w' := by
  have c8 := tr_cell h 8
  simp only [List.getElem?_toArray, List.getElem?_cons_zero, List.getElem?_cons_succ] at c8
  go_enter Tryz.func30, Tryz.ntmps30
  go_wp2_with fail
  refine (momentFault_ok _ _ h1 h2).mono ?_
  rintro e w' ⟨rfl, rfl⟩
  go_wp2_with fail
  go_ret
  exact ⟨rfl, rfl⟩

/-- Does an entry last at a moment? -/
def lasts (n : NatC) (at_ : Int) (e : Ent) : Bool := decide (at_ - e.last < n.timeout)
theorem countP_snoc (n : NatC) (at_ : Int) (L : List Ent) (k : Nat) (h : k < L.length) : (L.take (k + 1)).countP (lasts n at_) = (L.take k).countP (lasts n at_) + if lasts n at_ (L.getD k noEnt) then 1 else 0 := by
  rw [List.take_succ_eq_append_getElem h, List.countP_append]
  have : L.getD k noEnt = L[k] := by simp [List.getElem?_eq_getElem h]
  rw [this]
  by_cases hl : lasts n at_ L[k] <;> simp [hl]

set_option maxRecDepth 100000 in
set_option maxHeartbeats 1000000 in
theorem lasting_any (T : Nat) (n : NatC) (now next : Int) (A : Option Addr) (cap : Nat) (L : List Ent) (at_ : Int) (w : World) (h : w.heap[T]? = some (trObj n now next (.slice A L.length cap))) (hE : EntsAt w A L) (hl : L.length ≤ 1000000)
    (ha : 0 ≤ at_) (ha2 : at_ ≤ 1000) (hle : ∀ e ∈ L, 0 ≤ e.last ∧ e.last ≤ 1000) :
    Calls Tryz.prog 32 #[.pointer (some ⟨T, 0, none⟩), .int .i64 at_] w fun e w' => e = .returned (.int .i64 (L.countP (lasts n at_) : Nat)) ∧ Below w.heap.size w w' := by
  have t10 := tr_cell h 10
  simp only [List.getElem?_toArray, List.getElem?_cons_zero, List.getElem?_cons_succ] at t10
  have HT := Lib.hid h
  clear h
  go_enter Tryz.func32, Tryz.ntmps32
  go_wp2_with fail
  go_loopw [13, 5] (fun i c wr => ∃ k : Nat, k ≤ L.length ∧ i = .int .i64 k ∧ c = .int .i64 ((L.take k).countP (lasts n at_) : Nat) ∧ Below w.heap.size w wr) (fun i _ _ => L.length - (intOf i).toNat)
  case atStart => exact ⟨0, Nat.zero_le _, rfl, by simp, Below.refl _ _⟩
  case round =>
    obtain ⟨k, hk, rfl, rfl, hb⟩ := hrel
    by_cases hlt : k < L.length
    · obtain ⟨g, off, rfl, hgB, ⟨c0, c1, c2, c3, c4, c5, c6, c7, c8, c9, c10⟩⟩ := (hE.below hb) k hlt
      have t2 := tr_cell (tr_below HT.out hb) 2
      have htl := tr_lt (tr_below HT.out hb)
      simp only [List.getElem?_toArray, List.getElem?_cons_zero, List.getElem?_cons_succ] at t2
      have hs := countP_snoc n at_ L k hlt
      have hcl : (L.take k).countP (lasts n at_) ≤ k := Nat.le_trans (List.countP_le_length) (by simp; omega)
      obtain ⟨hl0, hl1⟩ := hle (L.getD k noEnt) (by rw [List.getD_eq_getElem?_getD, List.getElem?_eq_getElem hlt]; exact List.getElem_mem hlt)
      generalize L.getD k noEnt = x at *
      have HB := Lib.hid hb
      have HE := Lib.hid hE
      have HLE := Lib.hid hle
      clear hb hE hle
      have hd : decide ((k : Int) < (L.length : Int)) = true := by simp; omega
      by_cases hq : at_ - x.last < n.timeout
      · have hq' : lasts n at_ x = true := by unfold lasts; simpa using hq
        have HS : Hid ((L.take (k + 1)).countP (lasts n at_) = (L.take k).countP (lasts n at_) + 1) := Lib.hid (by rw [hs, hq']; rfl)
        clear hs hq'
        go_wp2_with fail
        go_quiet (fail)
        go_wp2_with fail
        go_roundw
        case rel => exact ⟨k + 1, by omega, by go_num, by rw [HS.out]; go_num, belowQ (HB.out.alloc HB.out.size _) _⟩
        case measure => simp [intOf]; omega
      · have hq' : lasts n at_ x = false := by unfold lasts; simpa using hq
        have HS : Hid ((L.take (k + 1)).countP (lasts n at_) = (L.take k).countP (lasts n at_)) := Lib.hid (by rw [hs, hq']; rfl)
        have hq2 : decide (at_ - x.last < n.timeout) = false := by simpa using hq
        clear hs hq'
        go_wp2_with fail
        go_quiet (fail)
        go_wp2_with fail
        go_roundw
        case rel => exact ⟨k + 1, by omega, by go_num, by rw [HS.out], belowQ (HB.out.alloc HB.out.size _) _⟩
        case measure => simp [intOf]; omega
    · have : k = L.length := by omega
      subst this
      have hd : decide ((L.length : Int) < (L.length : Int)) = false := by simp
      rw [List.take_length]
      go_wp2_with fail
      go_ret
      exact ⟨rfl, hb⟩
end Go.Proofs.YtphjgjcbolmdiaaGreatDoor
