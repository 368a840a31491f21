/- Translators: after, free. -/
import Derived.Test.YtphjgjcbolmdiaaGreatDoorNtG
namespace Go.Proofs.YtphjgjcbolmdiaaGreatDoor
open Go.RowKit Go.Hw

/-- The port behind a port. -/
def afterP (n : NatC) (p : Int) : Int := if p = n.first + n.ports - 1 then n.first else p + 1
def iterP (n : NatC) : Nat → Int → Int
  | 0, p => p
  | k + 1, p => afterP n (iterP n k p)
def Fine (n : NatC) : Prop := 1 ≤ n.maps ∧ n.maps ≤ 3 ∧ 1 ≤ n.lets ∧ n.lets ≤ 3 ∧ 1 ≤ n.timeout ∧ n.timeout ≤ 1000000 ∧ 1 ≤ n.first ∧ n.first ≤ 65535 ∧ 1 ≤ n.ports ∧ n.ports ≤ 65536 - n.first
def InRange (n : NatC) (p : Int) : Prop := n.first ≤ p ∧ p < n.first + n.ports
theorem after_in {n : NatC} {p : Int} (hn : Fine n) (h : InRange n p) : InRange n (afterP n p) := by
  unfold Fine at hn
  unfold InRange afterP at *
  split <;> omega
theorem iter_in {n : NatC} {p : Int} (hn : Fine n) (h : InRange n p) : ∀ k, InRange n (iterP n k p)
  | 0 => h
  | k + 1 => after_in hn (iter_in hn h k)
/-- The port that free hands out. -/
def IsFree (n : NatC) (L : List Ent) (next port : Int) : Prop := ∃ j, port = iterP n j next ∧ (∀ i, i < j → L.any (fun e => e.port == iterP n i next) = true) ∧ L.any (fun e => e.port == port) = false

theorem tr_set9 {w : World} {T : Nat} {n : NatC} {now next : Int} {lv : Value} (h : w.heap[T]? = some (trObj n now next lv)) (x : Int) : (w.setCell ⟨T, 9, none⟩ (.int .i64 x)).heap[T]? = some (trObj n now x lv) := by
  unfold trObj at h ⊢
  simpa using heap_set h 9 (.int .i64 x)
theorem tr_set8 {w : World} {T : Nat} {n : NatC} {now next : Int} {lv : Value} (h : w.heap[T]? = some (trObj n now next lv)) (x : Int) : (w.setCell ⟨T, 8, none⟩ (.int .i64 x)).heap[T]? = some (trObj n x next lv) := by
  unfold trObj at h ⊢
  simpa using heap_set h 8 (.int .i64 x)
theorem tr_set10 {w : World} {T : Nat} {n : NatC} {now next : Int} {lv : Value} (h : w.heap[T]? = some (trObj n now next lv)) (v : Value) : (w.setCell ⟨T, 10, none⟩ v).heap[T]? = some (trObj n now next v) := by
  unfold trObj at h ⊢
  simpa using heap_set h 10 v
theorem one_set {w : World} {b : Nat} {v : Value} {T : TypeId} (h : w.heap[b]? = some (.cells #[v] T (0, 0))) (u : Value) : (w.setCell ⟨b, 0, none⟩ u).heap[b]? = some (.cells #[u] T (0, 0)) := by
  simpa using heap_set h 0 u
theorem grown_of_below {w w1 : World} (h : Below w.heap.size w w1) (row : Option Nat) : w.grownBy w1 row := ⟨h.os, h.tape, h.output, h.size, fun k hk _ => h.block k hk⟩

set_option maxRecDepth 100000 in
set_option maxHeartbeats 400000 in
theorem after_any (T : Nat) (n : NatC) (now next : Int) (lv : Value) (p : Int) (w : World) (h : w.heap[T]? = some (trObj n now next lv)) (hn : Fine n) (hp : InRange n p) :
    Calls Tryz.prog 68 #[.pointer (some ⟨T, 0, none⟩), .int .i64 p] w fun e w' => e = .returned (.int .i64 (afterP n p)) ∧ ∃ q, w' = w.drewN q := by
  have t3 := tr_cell h 3
  have t4 := tr_cell h 4
  have htl := tr_lt h
  simp only [List.getElem?_toArray, List.getElem?_cons_zero, List.getElem?_cons_succ] at t3 t4
  obtain ⟨_, _, _, _, _, _, f1, f2, f3, f4⟩ := hn
  obtain ⟨p1, p2⟩ := hp
  have hfin : afterP n p = afterP n p := rfl
  conv at hfin => rhs; unfold afterP
  clear h
  by_cases hq : p = n.first + n.ports - 1
  · have HF : Hid (afterP n p = n.first) := Lib.hid (hfin.trans (if_pos hq))
    have e1 : (p == n.first + n.ports - 1) = true := by simpa using hq
    clear hfin hq
    go_enter Tryz.func68, Tryz.ntmps68
    go_wp2_with fail
    go_quiet (fail)
    go_wp2_with fail
    go_ret
    exact ⟨ret_eq HF.out.symm, _, rfl⟩
  · have HF : Hid (afterP n p = p + 1) := Lib.hid (hfin.trans (if_neg hq))
    have e1 : (p == n.first + n.ports - 1) = false := by simpa using hq
    clear hfin hq
    go_enter Tryz.func68, Tryz.ntmps68
    go_wp2_with fail
    go_quiet (fail)
    go_wp2_with fail
    go_ret
    exact ⟨ret_eq HF.out.symm, _, rfl⟩

def FreeOut (w : World) (T : Nat) (n : NatC) (now next : Int) (lv : Value) (L : List Ent) (e : Ending) (w' : World) : Prop :=
  ∃ port, e = .returned (.int .i64 port) ∧ IsFree n L next port ∧ w'.heap[T]? = some (trObj n now (afterP n port) lv) ∧ w.grownBy w' (some T)
def FreeInv (w : World) (n : NatC) (next : Int) (L : List Ent) (K : Nat) (j : Nat) (wr : World) : Prop :=
  j ≤ K ∧ wr.heap[w.heap.size]? = some (.cells #[.int .i64 (iterP n j next)] 3 (0, 0)) ∧ (∀ i, i < j → L.any (fun e => e.port == iterP n i next) = true) ∧ Below w.heap.size w wr

set_option maxRecDepth 100000 in
set_option maxHeartbeats 2000000 in
theorem free_any (T : Nat) (n : NatC) (now next : Int) (A : Option Addr) (cap : Nat) (L : List Ent) (K : Nat) (w : World) (h : w.heap[T]? = some (trObj n now next (.slice A L.length cap))) (hE : EntsAt w A L) (hl : L.length ≤ 1000000)
    (hn : Fine n) (hp : InRange n next) (hK : L.any (fun e => e.port == iterP n K next) = false) :
    Calls Tryz.prog 35 #[.pointer (some ⟨T, 0, none⟩)] w (FreeOut w T n now next (.slice A L.length cap) L) := by
  have t9 := tr_cell h 9
  have htl := tr_lt h
  simp only [List.getElem?_toArray, List.getElem?_cons_zero, List.getElem?_cons_succ] at t9
  go_enter Tryz.func35, Tryz.ntmps35
  go_wp2_with fail
  go_loopg [] K (fun gg wr => ∃ j, K - j ≤ gg ∧ FreeInv w n next L K j wr)
  case atStart => exact ⟨0, by omega, Nat.zero_le _, heap_alloc_new w _, fun i hi => by omega, (Below.refl _ _).alloc (Nat.le_refl _) _⟩
  case round =>
    obtain ⟨j, hg, hj, hbp, hall, hb⟩ := hrel
    have hE' := hE.below hb
    have hT' := tr_below h hb
    have t10 := tr_cell hT' 10
    have htl' := tr_lt hT'
    simp only [List.getElem?_toArray, List.getElem?_cons_zero, List.getElem?_cons_succ] at t10
    have cbp := cell_of_one hbp
    have fbp := free_of_one hbp
    have lbp := lt_of_block hbp
    have hcall := anyEnt_any A cap L _ _ _ wr enters67 hE' hl (freePred w.heap.size (iterP n j next) L wr (oneAt_of hbp))
    have hin := iter_in hn hp j
    cases hq : L.any (fun e => e.port == iterP n j next)
    · rw [hq] at hcall
      have HF : Hid (IsFree n L next (iterP n j next)) := Lib.hid ⟨j, rfl, hall, hq⟩
      have HB := Lib.hid hb
      have HN := Lib.hid hn
      have HIN := Lib.hid hin
      have HT' := Lib.hid hT'
      have HBP := Lib.hid hbp
      generalize iterP n j next = port at *
      clear hall hq hb hn hin hT' hE hE' hK hp h t9 hbp
      go_wp2_with fail
      refine hcall.mono ?_
      rintro e w1 ⟨rfl, hb1⟩
      have cbp1 := (hb1.cell (p := ⟨w.heap.size, 0, none⟩) lbp).trans cbp
      have hT1 := tr_below HT'.out hb1
      have HT1 := Lib.hid hT1
      have tc9 := tr_cell hT1 9
      have htl1 := tr_lt hT1
      have hft : w1.frozen? ⟨T, 9, none⟩ = false := by simp [World.frozen?, hT1, trObj]
      simp only [List.getElem?_toArray, List.getElem?_cons_zero, List.getElem?_cons_succ] at tc9
      have HB1 := Lib.hid (HB.out.trans (hb1.mono HB.out.size))
      have lbp1 : w.heap.size < w1.heap.size := Nat.lt_of_lt_of_le lbp hb1.size
      clear hb1 cbp fbp hT1 t10
      go_wp2_with fail
      refine (after_any T n now next (.slice A L.length cap) port _ HT1.out HN.out HIN.out).mono ?_
      rintro e w2 ⟨rfl, q, rfl⟩
      go_wp2_with fail
      go_ret
      refine ⟨port, rfl, HF.out, ?_, ?_⟩
      · exact tr_set9 (w := w1.drewN q) HT1.out (afterP n port)
      · exact grown_set (w1 := w1.drewN q) (grown_of_below (belowQ HB1.out q) _) 9 _
    · rw [hq] at hcall
      have hjK : j < K := by
        refine Nat.lt_of_le_of_ne hj fun e => ?_
        subst e
        rw [hK] at hq
        cases hq
      have hall' : ∀ i, i < j + 1 → L.any (fun e => e.port == iterP n i next) = true := fun i hi => by
        by_cases e : i = j
        · subst e; exact hq
        · exact hall i (by omega)
      have HA := Lib.hid hall'
      have HB := Lib.hid hb
      have HN := Lib.hid hn
      have HIN := Lib.hid hin
      have HT' := Lib.hid hT'
      have HBP := Lib.hid hbp
      have hit : iterP n (j + 1) next = afterP n (iterP n j next) := rfl
      have HIT := Lib.hid hit
      clear hall hall' hq hb hn hin hT' hE hE' hK hp h t9 hbp hit
      go_wp2_with fail
      refine hcall.mono ?_
      rintro e w1 ⟨rfl, hb1⟩
      have hbp1 := (hb1.block w.heap.size lbp).trans HBP.out
      have cbp1 := cell_of_one hbp1
      have fbp1 := free_of_one hbp1
      have lbp1 := lt_of_block hbp1
      have HBP1 := Lib.hid hbp1
      have HT1 := Lib.hid (tr_below HT'.out hb1)
      have HB1 := Lib.hid (HB.out.trans (hb1.mono HB.out.size))
      clear hb1 cbp fbp t10 hbp1
      go_wp2_with fail
      refine (after_any T n now next (.slice A L.length cap) _ _ HT1.out HN.out HIN.out).mono ?_
      rintro e w2 ⟨rfl, q, rfl⟩
      go_wp2_with fail
      go_roundg (K - (j + 1))
      case measure => omega
      case rel => exact ⟨j + 1, Nat.le_refl _, hjK, by rw [HIT.out]; exact one_set (w := w1.drewN q) HBP1.out _, HA.out, (belowQ HB1.out q).setCell (Nat.le_refl _) _⟩
end Go.Proofs.YtphjgjcbolmdiaaGreatDoor
