/- Translators: find, after, free, pass. -/
import Derived.Test.YtphjgjcbolmdiaaGreatDoorNtF
import Derived.Test.YtphjgjcbolmdiaaGreatDoorTok
import Derived.OneCell
namespace Go.Proofs.YtphjgjcbolmdiaaGreatDoor
open Go.RowKit Go.Hw

theorem enters63 : ∀ args w, (callFunc 63 args).run Tryz.prog w = .ok (.enter 63 args) w := enters_of Tryz.func63 (by kernel_rfl) rfl
theorem enters65 : ∀ args w, (callFunc 65 args).run Tryz.prog w = .ok (.enter 65 args) w := enters_of Tryz.func65 (by kernel_rfl) rfl
theorem enters67 : ∀ args w, (callFunc 67 args).run Tryz.prog w = .ok (.enter 67 args) w := enters_of Tryz.func67 (by kernel_rfl) rfl

theorem drewB {W w1 : World} (h : Below W.drew.heap.size W.drew w1) : Below W.heap.size W w1 := ⟨h.os, h.tape, h.output, h.size, h.block⟩
theorem spotAt_of {W : World} {b : Nat} {s : Spot} {T : TypeId} {l} (h : W.heap[b]? = some (.cells #[.bool s.six, .int .u64 s.hi, .int .u64 s.lo, .int .i64 s.port] T l)) : SpotAt W b s :=
  ⟨lt_of_block h, by simp [World.cell?, h], by simp [World.cell?, h], by simp [World.cell?, h], by simp [World.cell?, h]⟩
theorem spotAt_new (W : World) (s : Spot) (T : TypeId) : SpotAt (W.alloc (.cells #[.bool s.six, .int .u64 s.hi, .int .u64 s.lo, .int .i64 s.port] T)) W.heap.size s := spotAt_of (heap_alloc_new W _)
theorem oneAt_of {W : World} {b : Nat} {v : Value} {T : TypeId} {l} (h : W.heap[b]? = some (.cells #[v] T l)) : OneAt W b v := ⟨lt_of_block h, by simp [World.cell?, h]⟩
/-- What was made ahead of a call that leaves it alone. -/
theorem made4 {W w1 : World} {a b c d : Value} {T : TypeId} (hb1 : Below (W.alloc (.cells #[a, b, c, d] T)).drew.heap.size (W.alloc (.cells #[a, b, c, d] T)).drew w1) :
    w1.cell? ⟨W.heap.size, 0, none⟩ = some a ∧ w1.cell? ⟨W.heap.size, 1, none⟩ = some b ∧ w1.cell? ⟨W.heap.size, 2, none⟩ = some c ∧ w1.cell? ⟨W.heap.size, 3, none⟩ = some d ∧
    w1.frozen? ⟨W.heap.size, 0, none⟩ = false ∧ w1.frozen? ⟨W.heap.size, 1, none⟩ = false ∧ w1.frozen? ⟨W.heap.size, 2, none⟩ = false ∧ w1.frozen? ⟨W.heap.size, 3, none⟩ = false := by
  have hz : w1.heap[W.heap.size]? = some (.cells #[a, b, c, d] T (0, 0)) := (hb1.block W.heap.size (by simp)).trans (heap_alloc_new W _)
  refine ⟨?_, ?_, ?_, ?_, ?_, ?_, ?_, ?_⟩ <;> simp [World.frozen?, World.cell?, hz]

theorem madeZ {W w1 : World} {cs : Array Value} {T : TypeId} (hb1 : Below (W.alloc (.cells cs T)).drew.heap.size (W.alloc (.cells cs T)).drew w1) : w1.heap[W.heap.size]? = some (.cells cs T (0, 0)) := (hb1.block W.heap.size (by simp)).trans (heap_alloc_new W _)
theorem set4 {w1 : World} {b B : Nat} {a0 a1 a2 a3 v0 v1 v2 v3 : Value} {T : TypeId} {l} (hz : w1.heap[b]? = some (.cells #[a0, a1, a2, a3] T l)) (hB : B ≤ b) {W2 : World}
    (h : (((w1.setCell ⟨b, 0, none⟩ v0).setCell ⟨b, 1, none⟩ v1).setCell ⟨b, 2, none⟩ v2).setCell ⟨b, 3, none⟩ v3 = W2) : W2.heap[b]? = some (.cells #[v0, v1, v2, v3] T l) ∧ Below B w1 W2 := by
  subst h
  refine ⟨?_, ((((Below.refl _ _).setCell hB _).setCell hB _).setCell hB _).setCell hB _⟩
  have := heap_set (heap_set (heap_set (heap_set hz 0 v0) 1 v1) 2 v2) 3 v3
  simpa using this

theorem four (w : World) (o1 o2 o3 o4 : Obj) : ∀ W, (((w.alloc o1).alloc o2).alloc o3).alloc o4 = W →
    W.heap[w.heap.size]? = some o1 ∧ W.heap[w.heap.size + 1]? = some o2 ∧ W.heap[w.heap.size + 1 + 1]? = some o3 ∧ W.heap[w.heap.size + 1 + 1 + 1]? = some o4 ∧ Below w.heap.size w W := by
  rintro W rfl
  have e1 := fun (v : World) (o : Obj) => (show (v.alloc o).heap.size = v.heap.size + 1 by simp)
  refine ⟨?_, ?_, ?_, ?_, ?_⟩
  · rw [Below.heap_alloc _ _ _ (by rw [e1, e1, e1]; omega), Below.heap_alloc _ _ _ (by rw [e1, e1]; omega), Below.heap_alloc _ _ _ (by rw [e1]; omega), heap_alloc_new]
  · have h := heap_alloc_new (w.alloc o1) o2
    rw [e1] at h
    rw [Below.heap_alloc _ _ _ (by rw [e1, e1, e1]; omega), Below.heap_alloc _ _ _ (by rw [e1, e1]; omega), h]
  · have h := heap_alloc_new ((w.alloc o1).alloc o2) o3
    rw [e1, e1] at h
    rw [Below.heap_alloc _ _ _ (by rw [e1, e1, e1]; omega), h]
  · have h := heap_alloc_new (((w.alloc o1).alloc o2).alloc o3) o4
    rw [e1, e1, e1] at h
    exact h
  · exact ((((Below.refl _ _).alloc (Nat.le_refl _) _).alloc (by simp) _).alloc (by rw [e1, e1]; omega) _).alloc (by rw [e1, e1, e1]; omega) _

set_option maxRecDepth 100000 in
set_option maxHeartbeats 2000000 in
theorem find_any (T : Nat) (n : NatC) (now next : Int) (A : Option Addr) (cap : Nat) (L : List Ent) (at_ : Int) (s d : Spot) (w : World) (h : w.heap[T]? = some (trObj n now next (.slice A L.length cap))) (hE : EntsAt w A L) (hl : L.length ≤ 1000000)
    (h0 : 0 ≤ at_) (h1 : at_ ≤ 1000) (hle : ∀ e ∈ L, 0 ≤ e.last ∧ e.last ≤ 1000) :
    Calls Tryz.prog 33 #[.pointer (some ⟨T, 0, none⟩), .int .i64 at_, .agg #[.bool s.six, .int .u64 s.hi, .int .u64 s.lo, .int .i64 s.port], .agg #[.bool d.six, .int .u64 d.hi, .int .u64 d.lo, .int .i64 d.port]] w
      fun e w' => e = .returned (.int .i64 (idxP (isEntry n at_ s (seenS d n.maps)) L)) ∧ Below w.heap.size w w' := by
  go_enter Tryz.func33, Tryz.ntmps33
  go_wp2_with fail
  generalize hW : World.alloc _ _ = W
  obtain ⟨b0, b1, b2, b3, hb⟩ := four _ _ _ _ _ _ hW
  clear hW
  have hT := tr_below h hb
  have hEW := hE.below hb
  have l3 := lt_of_block b3
  have htl := tr_lt hT
  have t0 := tr_cell hT 0
  simp only [List.getElem?_toArray, List.getElem?_cons_zero] at t0
  have k0 := cell_of_one b0
  have d0 := cell_of b3 0
  have d1 := cell_of b3 1
  have d2 := cell_of b3 2
  have d3 := cell_of b3 3
  simp only [List.getElem?_toArray, List.getElem?_cons_zero, List.getElem?_cons_succ] at d0 d1 d2 d3
  generalize hH : w.heap.size = H at *
  have HH := Lib.hid hH
  clear hH
  have hseen := fun W => seen_any d n.maps W
  unfold spotV at hseen
  generalize hdep : seenS d n.maps = dep at *
  have HD := Lib.hid hdep
  clear hdep
  have n0 := World.new_ne W _ k0
  have n1 := World.new_ne W _ t0
  have n2 := World.new_ne W _ d0
  have n3 := World.new_ne W _ d1
  have n4 := World.new_ne W _ d2
  have n5 := World.new_ne W _ d3
  go_region_held3 (fun w' => w'.cell? ⟨H, 0, none⟩ = some (.pointer (some ⟨T, 0, none⟩)) ∧ w'.cell? ⟨T, 0, none⟩ = some (.int .i64 n.maps) ∧ w'.cell? ⟨H + 1 + 1 + 1, 0, none⟩ = some (.bool d.six) ∧ w'.cell? ⟨H + 1 + 1 + 1, 1, none⟩ = some (.int .u64 d.hi) ∧ w'.cell? ⟨H + 1 + 1 + 1, 2, none⟩ = some (.int .u64 d.lo) ∧ w'.cell? ⟨H + 1 + 1 + 1, 3, none⟩ = some (.int .i64 d.port)) (first | go_keep | ((repeat' apply And.intro) <;> (repeat (first | with_reducible assumption | rw [cell_drew] | rw [World.cell?_alloc_lt _ _ _ (by simp; omega)] | rw [World.cell?_alloc_lt _ _ _ (by have := hb1.size; simp at this ⊢; omega)] | rw [Below.cell hb1 (by simp; omega)] | rw [World.cell?_setCell_far _ _ _ _ (by have := hb1.size; simp at this ⊢; omega)] | rw [World.cell?_setCell_far _ _ _ _ (by simp; omega)]))))
    ((go_at_call 36; refine (hseen _).mono ?_; rintro e w1 ⟨rfl, hb1⟩; try have z := made4 (W := W) hb1))
  · generalize hW2 : World.alloc _ _ = W2
    have hb2 : Below W.heap.size W W2 := by rw [← hW2]; exact (drewB hb1).alloc (by have := hb1.size; simpa using this) _
    have hd2 : SpotAt W2 w1.heap.size dep := by rw [← hW2]; exact spotAt_new w1 dep _
    have hB2 := Lib.hid (hb.trans (hb2.mono (show H ≤ W.heap.size by omega)))
    have hz : H ≤ W2.heap.size := by have := hb2.size; omega
    have hcall := idxEnt_any A cap L _ _ _ W2 enters63 (hEW.below hb2) hl (findPred T n now next (.slice A L.length cap) (H + 1 + 1) w1.heap.size (H + 1) H s dep at_ L W2 (tr_below hT hb2) ((spotAt_of b2).below hb2) hd2 ((oneAt_of b1).below hb2) ((oneAt_of b0).below hb2) h0 h1 hle)
    have r0 := ((oneAt_of b0).below hb2).2
    have r1 := tr_cell (tr_below hT hb2) 10
    have r2 := tr_lt (tr_below hT hb2)
    simp only [List.getElem?_toArray, List.getElem?_cons_zero, List.getElem?_cons_succ] at r1
    clear hW2 hb2 hd2 hb1 d0 d1 d2 d3 k0 t0 n0 n1 n2 n3 n4 n5 b0 b1 b2 b3 hT hEW hE h hle hseen hb
    generalize hr : idxP (isEntry n at_ s dep) L = r at *
    have HR := Lib.hid hr
    clear hr
    go_wp2_with fail
    refine hcall.mono ?_
    rintro e w3 ⟨rfl, hb3⟩
    go_wp2_with fail
    go_ret
    exact ⟨ret_eq (by rw [HD.out]; exact HR.out.symm), by rw [HH.out]; exact hB2.out.trans (hb3.mono hz)⟩
  · generalize hW2 : World.setCell _ _ _ = W2
    have hset := set4 (madeZ hb1) (Nat.le_refl _) hW2
    have hb2 : Below W.heap.size W W2 := ((Below.refl _ W).alloc (Nat.le_refl _) _).drew.trans ((hb1.mono (by simp)).trans hset.2)
    have hd2 : SpotAt W2 W.heap.size dep := spotAt_of hset.1
    have hB2 := Lib.hid (hb.trans (hb2.mono (show H ≤ W.heap.size by omega)))
    have hz : H ≤ W2.heap.size := by have := hb2.size; omega
    have hcall := idxEnt_any A cap L _ _ _ W2 enters63 (hEW.below hb2) hl (findPred T n now next (.slice A L.length cap) (H + 1 + 1) W.heap.size (H + 1) H s dep at_ L W2 (tr_below hT hb2) ((spotAt_of b2).below hb2) hd2 ((oneAt_of b1).below hb2) ((oneAt_of b0).below hb2) h0 h1 hle)
    have r0 := ((oneAt_of b0).below hb2).2
    have r1 := tr_cell (tr_below hT hb2) 10
    have r2 := tr_lt (tr_below hT hb2)
    simp only [List.getElem?_toArray, List.getElem?_cons_zero, List.getElem?_cons_succ] at r1
    clear hW2 hset hb2 hd2 hb1 d0 d1 d2 d3 k0 t0 n0 n1 n2 n3 n4 n5 b0 b1 b2 b3 hT hEW hE h hle hseen hb
    generalize hr : idxP (isEntry n at_ s dep) L = r at *
    have HR := Lib.hid hr
    clear hr
    go_wp2_with fail
    refine hcall.mono ?_
    rintro e w3 ⟨rfl, hb3⟩
    go_wp2_with fail
    go_ret
    exact ⟨ret_eq (by rw [HD.out]; exact HR.out.symm), by rw [HH.out]; exact hB2.out.trans (hb3.mono hz)⟩
end Go.Proofs.YtphjgjcbolmdiaaGreatDoor
