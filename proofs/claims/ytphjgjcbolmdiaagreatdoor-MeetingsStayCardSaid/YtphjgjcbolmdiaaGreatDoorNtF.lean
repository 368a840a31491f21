/- Translators: the closures over entries. -/
import Derived.Test.YtphjgjcbolmdiaaGreatDoorNtE
namespace Go.Proofs.YtphjgjcbolmdiaaGreatDoor
open Go.RowKit Go.Hw

/-- The four cells of a spot lie at b. -/
def SpotAt (w : World) (b : Nat) (s : Spot) : Prop := b < w.heap.size ∧ w.cell? ⟨b, 0, none⟩ = some (.bool s.six) ∧ w.cell? ⟨b, 1, none⟩ = some (.int .u64 s.hi) ∧ w.cell? ⟨b, 2, none⟩ = some (.int .u64 s.lo) ∧ w.cell? ⟨b, 3, none⟩ = some (.int .i64 s.port)
theorem SpotAt.below {w w' : World} {b : Nat} {s : Spot} (h : SpotAt w b s) (hb : Below w.heap.size w w') : SpotAt w' b s :=
  ⟨Nat.lt_of_lt_of_le h.1 hb.size, (hb.cell (p := ⟨b, 0, none⟩) h.1).trans h.2.1, (hb.cell (p := ⟨b, 1, none⟩) h.1).trans h.2.2.1, (hb.cell (p := ⟨b, 2, none⟩) h.1).trans h.2.2.2.1, (hb.cell (p := ⟨b, 3, none⟩) h.1).trans h.2.2.2.2⟩
def OneAt (w : World) (b : Nat) (v : Value) : Prop := b < w.heap.size ∧ w.cell? ⟨b, 0, none⟩ = some v
theorem OneAt.below {w w' : World} {b : Nat} {v : Value} (h : OneAt w b v) (hb : Below w.heap.size w w') : OneAt w' b v := ⟨Nat.lt_of_lt_of_le h.1 hb.size, (hb.cell (p := ⟨b, 0, none⟩) h.1).trans h.2⟩

/-- The entry of two spots that lasts. -/
def isEntry (n : NatC) (at_ : Int) (s d : Spot) (e : Ent) : Bool := e.inner.beq s && (e.dep.beq d && lasts n at_ e)

set_option maxRecDepth 100000 in
set_option maxHeartbeats 1000000 in
theorem findPred (T : Nat) (n : NatC) (now next : Int) (lv : Value) (bs bd ba bt : Nat) (s d : Spot) (at_ : Int) (L : List Ent) (w : World) (h : w.heap[T]? = some (trObj n now next lv))
    (hs : SpotAt w bs s) (hd : SpotAt w bd d) (ha : OneAt w ba (.int .i64 at_)) (ht : OneAt w bt (.pointer (some ⟨T, 0, none⟩))) (h0 : 0 ≤ at_) (h1 : at_ ≤ 1000) (hle : ∀ e ∈ L, 0 ≤ e.last ∧ e.last ≤ 1000) :
    PredE 63 #[.pointer (some ⟨bs, 0, none⟩), .pointer (some ⟨bd, 0, none⟩), .pointer (some ⟨ba, 0, none⟩), .pointer (some ⟨bt, 0, none⟩)] (isEntry n at_ s d) L w := by
  intro W e he hb
  obtain ⟨hl0, hl1⟩ := hle e he
  obtain ⟨s5, s0, s1, s2, s3⟩ := hs.below hb
  obtain ⟨d5, d0, d1, d2, d3⟩ := hd.below hb
  obtain ⟨a5, a0⟩ := ha.below hb
  obtain ⟨p5, p0⟩ := ht.below hb
  have t2 := tr_cell (tr_below h hb) 2
  have htl := tr_lt (tr_below h hb)
  simp only [List.getElem?_toArray, List.getElem?_cons_zero, List.getElem?_cons_succ] at t2
  clear h hs hd ha ht hle he hb
  have q1 := fun w => run_eq_spot e.inner s w
  have q2 := fun w => run_eq_spot e.dep d w
  have g1 := guard_spot
  have hB : ∀ k, Below W.heap.size W ((W.alloc (.cells #[.bool e.inner.six, .int .u64 e.inner.hi, .int .u64 e.inner.lo, .int .i64 e.inner.port, .int .i64 e.port, .bool e.dep.six, .int .u64 e.dep.hi, .int .u64 e.dep.lo, .int .i64 e.dep.port, .int .i64 e.last, .slice e.sA e.sent.length e.scap] 97)).drewN k) := fun k => belowQ ((Below.refl _ _).alloc (Nat.le_refl _) _) k
  have HB := Lib.hid hB
  clear hB
  show Calls Tryz.prog 63 #[.agg #[.bool e.inner.six, .int .u64 e.inner.hi, .int .u64 e.inner.lo, .int .i64 e.inner.port, .int .i64 e.port, .bool e.dep.six, .int .u64 e.dep.hi, .int .u64 e.dep.lo, .int .i64 e.dep.port, .int .i64 e.last, .slice e.sA e.sent.length e.scap], .pointer (some ⟨bs, 0, none⟩), .pointer (some ⟨bd, 0, none⟩), .pointer (some ⟨ba, 0, none⟩), .pointer (some ⟨bt, 0, none⟩)] W _
  cases e1 : e.inner.beq s
  · have HF : Hid (isEntry n at_ s d e = false) := Lib.hid (by unfold isEntry; rw [e1]; rfl)
    go_enter Tryz.func63, Tryz.ntmps63
    go_wp2_with fail
    go_quiet (fail)
    go_wp2_with fail
    go_ret
    exact ⟨ret_bool HF.out.symm, HB.out _⟩
  · cases e2 : e.dep.beq d
    · have HF : Hid (isEntry n at_ s d e = false) := Lib.hid (by unfold isEntry; rw [e1, e2]; rfl)
      go_enter Tryz.func63, Tryz.ntmps63
      go_wp2_with fail
      go_quiet (fail)
      go_wp2_with fail
      go_ret
      exact ⟨ret_bool HF.out.symm, HB.out _⟩
    · have HF : Hid (isEntry n at_ s d e = decide (at_ - e.last < n.timeout)) := Lib.hid (by unfold isEntry; rw [e1, e2]; rfl)
      go_enter Tryz.func63, Tryz.ntmps63
      go_wp2_with fail
      go_quiet (fail)
      go_wp2_with fail
      go_ret
      exact ⟨ret_bool HF.out.symm, HB.out _⟩

set_option maxRecDepth 100000 in
set_option maxHeartbeats 1000000 in
theorem passPred (T : Nat) (n : NatC) (now next : Int) (lv : Value) (ba bt : Nat) (at_ : Int) (L : List Ent) (w : World) (h : w.heap[T]? = some (trObj n now next lv))
    (ha : OneAt w ba (.int .i64 at_)) (ht : OneAt w bt (.pointer (some ⟨T, 0, none⟩))) (h0 : 0 ≤ at_) (h1 : at_ ≤ 1000) (hle : ∀ e ∈ L, 0 ≤ e.last ∧ e.last ≤ 1000) :
    PredE 65 #[.pointer (some ⟨ba, 0, none⟩), .pointer (some ⟨bt, 0, none⟩)] (fun e => !lasts n at_ e) L w := by
  intro W e he hb
  obtain ⟨hl0, hl1⟩ := hle e he
  obtain ⟨a5, a0⟩ := ha.below hb
  obtain ⟨p5, p0⟩ := ht.below hb
  have t2 := tr_cell (tr_below h hb) 2
  have htl := tr_lt (tr_below h hb)
  simp only [List.getElem?_toArray, List.getElem?_cons_zero, List.getElem?_cons_succ] at t2
  clear h ha ht hle he hb
  have hB : ∀ k, Below W.heap.size W ((W.alloc (.cells #[.bool e.inner.six, .int .u64 e.inner.hi, .int .u64 e.inner.lo, .int .i64 e.inner.port, .int .i64 e.port, .bool e.dep.six, .int .u64 e.dep.hi, .int .u64 e.dep.lo, .int .i64 e.dep.port, .int .i64 e.last, .slice e.sA e.sent.length e.scap] 97)).drewN k) := fun k => belowQ ((Below.refl _ _).alloc (Nat.le_refl _) _) k
  have HB := Lib.hid hB
  clear hB
  show Calls Tryz.prog 65 #[.agg #[.bool e.inner.six, .int .u64 e.inner.hi, .int .u64 e.inner.lo, .int .i64 e.inner.port, .int .i64 e.port, .bool e.dep.six, .int .u64 e.dep.hi, .int .u64 e.dep.lo, .int .i64 e.dep.port, .int .i64 e.last, .slice e.sA e.sent.length e.scap], .pointer (some ⟨ba, 0, none⟩), .pointer (some ⟨bt, 0, none⟩)] W _
  have HF : Hid ((!lasts n at_ e) = decide (at_ - e.last ≥ n.timeout)) := Lib.hid (by unfold lasts; rw [Bool.eq_iff_iff]; simp)
  go_enter Tryz.func65, Tryz.ntmps65
  go_wp2_with fail
  go_quiet (fail)
  go_wp2_with fail
  go_ret
  exact ⟨ret_bool HF.out.symm, HB.out _⟩

set_option maxRecDepth 100000 in
set_option maxHeartbeats 1000000 in
theorem freePred (bp : Nat) (port : Int) (L : List Ent) (w : World) (hp : OneAt w bp (.int .i64 port)) :
    PredE 67 #[.pointer (some ⟨bp, 0, none⟩)] (fun e => e.port == port) L w := by
  intro W e _ hb
  obtain ⟨p5, p0⟩ := hp.below hb
  clear hp hb
  have hB : Below W.heap.size W (W.alloc (.cells #[.bool e.inner.six, .int .u64 e.inner.hi, .int .u64 e.inner.lo, .int .i64 e.inner.port, .int .i64 e.port, .bool e.dep.six, .int .u64 e.dep.hi, .int .u64 e.dep.lo, .int .i64 e.dep.port, .int .i64 e.last, .slice e.sA e.sent.length e.scap] 97)) := (Below.refl _ _).alloc (Nat.le_refl _) _
  have HB := Lib.hid hB
  clear hB
  show Calls Tryz.prog 67 #[.agg #[.bool e.inner.six, .int .u64 e.inner.hi, .int .u64 e.inner.lo, .int .i64 e.inner.port, .int .i64 e.port, .bool e.dep.six, .int .u64 e.dep.hi, .int .u64 e.dep.lo, .int .i64 e.dep.port, .int .i64 e.last, .slice e.sA e.sent.length e.scap], .pointer (some ⟨bp, 0, none⟩)] W _
  go_enter Tryz.func67, Tryz.ntmps67
  go_wp2_with fail
  go_ret
  exact ⟨rfl, HB.out⟩
end Go.Proofs.YtphjgjcbolmdiaaGreatDoor
