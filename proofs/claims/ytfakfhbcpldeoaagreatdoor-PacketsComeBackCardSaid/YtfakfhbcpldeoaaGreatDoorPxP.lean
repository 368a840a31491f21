/- A region that draws its order, whose values are known one and all, and whose state is known by the operations that have been. Packets as bytes: SamePacket. -/
import Derived.Test.YtfakfhbcpldeoaaGreatDoorRgU
import Derived.Test.YtfakfhbcpldeoaaGreatDoorPxI
import Derived.ChangeKeysEq
namespace Go.Proofs.YtfakfhbcpldeoaaGreatDoor


def updB (l : Nat → Bool) (i : Nat) : Nat → Bool := fun j => if j = i then true else l j
theorem wp_region_exact {P : Program} {ops : Array Oper} {Q : Exit → Act → World → Prop} {id : Nat} (n : Nat) {w : World} (A : (Nat → Value) → Act) (val : Nat → Value) (S : (Nat → Bool) → World → Prop) (f0 : Nat → Value) (K : Nat)
    (hm : P.follows .mixedOrders = true) (hok : regOkF ops n K = true)
    (step : ∀ (i : Nat) (o : Oper), i < n → ops[i]? = some o → ∀ (l : Nat → Bool) (f : Nat → Value) (w : World), l i = false → S l w → (∀ e ∈ o.after, Region.binds .any e = true → l e.on = true ∧ f e.on = val e.on) →
      OpStep P ops Q o (A f) w (fun a' w' => a' = A (upd f i (val i)) ∧ S (updB l i) w'))
    (last : ∀ (o : Oper), ops[n]? = some o → ∀ (l : Nat → Bool) (f : Nat → Value) (w : World), (∀ j, j < n → l j = true ∧ f j = val j) → S l w → Region.wanted o (yielded ops (A f).tmps) = true ∧ o.wp P (A f) w (fun a' w' => Q .normal a' w') Q)
    (h0 : S (fun _ => false) { w with drawn := w.drawn + 1 }) : (Code.region id ops true).wp P Q (A f0) w := by
  unfold regOkF at hok
  simp only [Bool.and_eq_true, beq_iff_eq, List.all_eq_true, List.mem_range] at hok
  obtain ⟨⟨hsz, h2⟩, h3⟩ := hok
  have hback : ∀ (i : Nat) (o : Oper), ops[i]? = some o → ∀ e ∈ o.after, Region.binds .any e = true → e.on < i := by
    intro i o ho e he hb
    have := h2 i (Array.getElem?_eq_some_iff.1 ho).1
    rw [ho] at this
    simp only [List.all_eq_true, Bool.or_eq_true, Bool.not_eq_true', decide_eq_true_eq] at this
    rcases this e (Array.mem_toList_iff.2 he) with h | h
    · rw [hb] at h; cases h
    · exact h
  have hsink : ∀ D : Nat → Prop, (∀ (j : Nat) (o : Oper), ops[j]? = some o → (j = n ∨ D j) → ∀ e ∈ o.after, Region.binds .any e = true → D e.on) → ∀ i, i < n → D i := by
    intro D hD i hi
    have := h3 i hi
    exact reachS_sink D hD K i (by simpa using this)
  refine wp_region_inv2 (fun L a w => (L.getD n false = true ∧ (∀ j, j < n → L.getD j false = true) ∧ Q .normal a w) ∨ (L.getD n false = false ∧ ∃ f, a = A f ∧ (∀ (j : Nat) (o : Oper), ops[j]? = some o → L.getD j false = true → ∀ e ∈ o.after, Region.binds .any e = true → L.getD e.on false = true) ∧ S (fun j => L.getD j false) w ∧ ∀ j, j < n → L.getD j false = true → f j = val j)) hm hback ?_ ?_ ?_
  · intro i o L a w ho hs hf hd hI
    have hin : i < ops.size := (Array.getElem?_eq_some_iff.1 ho).1
    have hil : i < L.size := by omega
    have hf' : L.getD i false = false := by rw [← getD_tf hil]; exact hf
    have hg : (fun j => (L.setIfInBounds i true).getD j false) = updB (fun j => L.getD j false) i := funext fun j => getD_set L i j false hil
    rcases hI with ⟨h1, h2, h3⟩ | ⟨h1, f, rfl, hcl, hS, hV⟩
    · exfalso
      by_cases e : i = n
      · rw [e, h1] at hf'; cases hf'
      · rw [h2 i (by omega)] at hf'; cases hf'
    · by_cases e : i = n
      · subst e
        have hall : ∀ j, j < i → L.getD j false = true := hsink (fun j => L.getD j false = true) (fun j o' ho' hj e he hb => by
          rcases hj with rfl | hj
          · rw [ho] at ho'; injection ho' with ho'; subst ho'; exact hd e he hb
          · exact hcl j o' ho' hj e he hb)
        have hla := last o ho (fun j => L.getD j false) f w (fun j hj => ⟨hall j hj, hV j hj (hall j hj)⟩) hS
        refine OpStep.of hla.1 (Oper.wp_mono (fun a' w' hq => .inl ⟨?_, fun j hj => ?_, hq⟩) hla.2)
        · rw [getD_set _ _ _ _ hil, if_pos rfl]
        · rw [getD_set _ _ _ _ hil, if_neg (by omega)]; exact hall j hj
      · have hla := step i o (by omega) ho (fun j => L.getD j false) f w hf' hS (fun e he hb => ⟨hd e he hb, hV e.on (by have := hback i o ho e he hb; omega) (hd e he hb)⟩)
        refine OpStep.mono (fun a' w' hq => ?_) hla
        obtain ⟨rfl, hS'⟩ := hq
        refine .inr ⟨by rw [getD_set _ _ _ _ hil, if_neg (fun c => e c.symm)]; exact h1, upd f i (val i), rfl, fun j o' ho' hj ed hed hb => ?_, by rw [hg]; exact hS', fun j hj hl => ?_⟩
        · rw [getD_set _ _ _ _ hil] at hj ⊢
          by_cases ee : ed.on = i
          · rw [if_pos ee]
          · rw [if_neg ee]
            by_cases ej : j = i
            · subst ej
              rw [ho] at ho'; injection ho' with ho'; subst ho'
              exact hd ed hed hb
            · rw [if_neg ej] at hj
              exact hcl j o' ho' hj ed hed hb
        by_cases ej : j = i
        · subst ej; rw [upd_same]
        · rw [upd_ne _ _ _ _ ej]
          rw [getD_set _ _ _ _ hil, if_neg ej] at hl
          exact hV j hj hl
  · intro L a w hs hl hI
    rcases hI with ⟨_, _, h⟩ | ⟨h, _⟩
    · exact h
    · rw [hl n (by omega)] at h; cases h
  · have hz : (fun j => (Array.replicate ops.size false).getD j false) = fun _ => false := funext fun j => by unfold Array.getD; split <;> simp
    refine .inr ⟨by simp [Array.getD, hsz], f0, rfl, fun j o' ho' hj => by simp [Array.getD] at hj, by rw [hz]; exact h0, fun j hj hl => ?_⟩
    simp [Array.getD] at hl
end Go.Proofs.YtfakfhbcpldeoaaGreatDoor

namespace Go.Proofs.YtfakfhbcpldeoaaGreatDoor
open Go.RowKit Go.Hw

def regBack (ops : Array Oper) : Bool := (List.range ops.size).all (fun i => match ops[i]? with | some o => o.after.toList.all (fun e => !Region.binds .any e || decide (e.on < i)) | none => true)
theorem regBack_ok {ops : Array Oper} (h : regBack ops = true) : ∀ (i : Nat) (o : Oper), ops[i]? = some o → ∀ e ∈ o.after, Region.binds .any e = true → e.on < i := by
  unfold regBack at h
  simp only [List.all_eq_true, List.mem_range] at h
  intro i o ho e he hb
  have := h i (Array.getElem?_eq_some_iff.1 ho).1
  rw [ho] at this
  simp only [List.all_eq_true, Bool.or_eq_true, Bool.not_eq_true', decide_eq_true_eq] at this
  rcases this e (Array.mem_toList_iff.2 he) with h | h
  · rw [hb] at h; cases h
  · exact h
/-- Two copies of structs that are laid into new blocks, in whatever order: the operations l have been. -/
structure TwoF (w0 : World) (cp cq zc : Array Value) (T : TypeId) (l : Nat → Bool) (f : Nat → Value) (w : World) : Prop where
  bl : Below w0.heap.size w0 w
  l0 : l 0 = true → f 0 = .agg cp
  l1 : l 1 = true → f 1 = .agg cq
  l2 : l 2 = true → ∃ X, f 2 = .pointer (some ⟨X, 0, none⟩) ∧ w0.heap.size ≤ X ∧ w.heap[X]? = some (.cells (if l 4 = true then cp else zc) T (0, 0))
  l3 : l 3 = true → ∃ Y, f 3 = .pointer (some ⟨Y, 0, none⟩) ∧ w0.heap.size ≤ Y ∧ w.heap[Y]? = some (.cells (if l 5 = true then cq else zc) T (0, 0))
  ne : l 2 = true → l 3 = true → f 2 ≠ f 3
  l4 : l 4 = true → l 2 = true ∧ l 3 = true
  l5 : l 5 = true → l 2 = true ∧ l 3 = true

section
variable {w0 w : World} {cp cq zc : Array Value} {T : TypeId} {l : Nat → Bool} {f : Nat → Value}
theorem TwoF.start (hl : ∀ j, l j = false) : TwoF w cp cq zc T l f w.drew :=
  have h : ∀ {j : Nat} {P : Prop}, l j = true → P := fun {j} {P} c => absurd ((hl j).symm.trans c) (by decide)
  ⟨(Below.refl _ _).drew, h, h, h, h, fun c => (h c : _ → _), h, h⟩
theorem TwoF.s0 (h : TwoF w0 cp cq zc T l f w) : TwoF w0 cp cq zc T (updB l 0) (upd f 0 (.agg cp)) w :=
  ⟨h.bl, fun _ => rfl, h.l1, h.l2, h.l3, h.ne, h.l4, h.l5⟩
theorem TwoF.s1 (h : TwoF w0 cp cq zc T l f w) : TwoF w0 cp cq zc T (updB l 1) (upd f 1 (.agg cq)) w :=
  ⟨h.bl, h.l0, fun _ => rfl, h.l2, h.l3, h.ne, h.l4, h.l5⟩
theorem TwoF.s2 (h : TwoF w0 cp cq zc T l f w) (hl : l 2 = false) : TwoF w0 cp cq zc T (updB l 2) (upd f 2 (.pointer (some ⟨w.heap.size, 0, none⟩))) (w.alloc (.cells zc T)) := by
  have n4 : l 4 ≠ true := fun c => by have := (h.l4 c).1; rw [hl] at this; cases this
  have n5 : l 5 ≠ true := fun c => by have := (h.l5 c).1; rw [hl] at this; cases this
  refine ⟨h.bl.alloc h.bl.size _, h.l0, h.l1, fun _ => ⟨w.heap.size, rfl, h.bl.size, ?_⟩, fun hc => ?_, fun _ hc => ?_, fun hc => absurd hc n4, fun hc => absurd hc n5⟩
  · rw [if_neg (show ¬ (updB l 2) 4 = true from n4)]
    exact heap_alloc_new w _
  · obtain ⟨Y, h1, h2, h3⟩ := h.l3 hc
    exact ⟨Y, h1, h2, old1 h3⟩
  · obtain ⟨Y, h1, h2, h3⟩ := h.l3 hc
    intro e
    have e : Value.pointer (some ⟨w.heap.size, 0, none⟩) = f 3 := e
    rw [h1] at e
    injection e with e
    injection e with e
    injection e with e
    have := lt_of_block h3
    omega
theorem TwoF.s3 (h : TwoF w0 cp cq zc T l f w) (hl : l 3 = false) : TwoF w0 cp cq zc T (updB l 3) (upd f 3 (.pointer (some ⟨w.heap.size, 0, none⟩))) (w.alloc (.cells zc T)) := by
  have n4 : l 4 ≠ true := fun c => by have := (h.l4 c).2; rw [hl] at this; cases this
  have n5 : l 5 ≠ true := fun c => by have := (h.l5 c).2; rw [hl] at this; cases this
  refine ⟨h.bl.alloc h.bl.size _, h.l0, h.l1, fun hc => ?_, fun _ => ⟨w.heap.size, rfl, h.bl.size, ?_⟩, fun hc _ => ?_, fun hc => absurd hc n4, fun hc => absurd hc n5⟩
  · obtain ⟨Y, h1, h2, h3⟩ := h.l2 hc
    exact ⟨Y, h1, h2, old1 h3⟩
  · rw [if_neg (show ¬ (updB l 3) 5 = true from n5)]
    exact heap_alloc_new w _
  · obtain ⟨Y, h1, h2, h3⟩ := h.l2 hc
    intro e
    have e : f 2 = Value.pointer (some ⟨w.heap.size, 0, none⟩) := e
    rw [h1] at e
    injection e with e
    injection e with e
    injection e with e
    have := lt_of_block h3
    omega
theorem TwoF.s4 (h : TwoF w0 cp cq zc T l f w) (h2 : l 2 = true) (h3 : l 3 = true) {X : Nat} (hX : f 2 = .pointer (some ⟨X, 0, none⟩)) {W : World} (hr : Re w W X cp T) : TwoF w0 cp cq zc T (updB l 4) f W := by
  obtain ⟨X', e, hx, _⟩ := h.l2 h2
  rw [hX] at e
  injection e with e
  injection e with e
  injection e with e
  subst e
  refine ⟨hr.below h.bl hx, h.l0, h.l1, fun _ => ⟨X, hX, hx, hr.blk⟩, fun _ => ?_, h.ne, fun _ => ⟨h2, h3⟩, h.l5⟩
  obtain ⟨Y, h1, hy, h4⟩ := h.l3 h3
  refine ⟨Y, h1, hy, (hr.oth Y (fun e => ?_)).trans h4⟩
  subst e
  exact h.ne h2 h3 (hX.trans h1.symm)
theorem TwoF.s5 (h : TwoF w0 cp cq zc T l f w) (h2 : l 2 = true) (h3 : l 3 = true) {Y : Nat} (hY : f 3 = .pointer (some ⟨Y, 0, none⟩)) {W : World} (hr : Re w W Y cq T) : TwoF w0 cp cq zc T (updB l 5) f W := by
  obtain ⟨X', e, hx, _⟩ := h.l3 h3
  rw [hY] at e
  injection e with e
  injection e with e
  injection e with e
  subst e
  refine ⟨hr.below h.bl hx, h.l0, h.l1, fun _ => ?_, fun _ => ⟨Y, hY, hx, hr.blk⟩, h.ne, h.l4, fun _ => ⟨h2, h3⟩⟩
  obtain ⟨X, h1, hy, h4⟩ := h.l2 h2
  refine ⟨X, h1, hy, (hr.oth X (fun e => ?_)).trans h4⟩
  subst e
  exact h.ne h2 h3 (h1.trans hY.symm)
end
theorem eq_addr_d (d : Nat) (a : Bool) (x u : Int) (w : World) : (Op.equalIn (d + 2) 28 (.agg #[.bool a, .int .u64 x, .int .u64 u]) (.agg #[.bool a, .int .u64 x, .int .u64 u])).run Tryz.prog w = .ok true w := by
  have u1 := Tryz.underlying4
  have u2 := Tryz.underlying26
  have hA : Tryz.prog.underlying 28 = some (.struct (Tryz.prog.fieldsOf 28)) := by kernel_rfl
  have pA : Tryz.prog.stoodInHeld 28 = false := by kernel_rfl
  rw [run_equalIn_agg w (d + 1) 28 _ _ hA pA]
  simp only [Program.fieldsOf, Tryz.underlying28]
  go_simp
theorem eq_addr_self (a : Bool) (x u : Int) (w : World) : (Op.equalIn 10000 28 (.agg #[.bool a, .int .u64 x, .int .u64 u]) (.agg #[.bool a, .int .u64 x, .int .u64 u])).run Tryz.prog w = .ok true w := eq_addr_d 9998 a x u w
theorem Tryz.infoIntW : (Tryz.prog.info? 3).map (fun i => (i.zero, i.size, i.bytes)) = some (some (.int .i64 0), 1, 8) := by kernel_rfl
theorem eq_ints_self (a b c d e f g : Int) (w : World) : (Op.equalIn 10000 57 (.agg #[.int .i64 a, .int .i64 b, .int .i64 c, .int .i64 d, .int .i64 e, .int .i64 f, .int .i64 g, .int .i64 0, .int .i64 0]) (.agg #[.int .i64 a, .int .i64 b, .int .i64 c, .int .i64 d, .int .i64 e, .int .i64 f, .int .i64 g, .int .i64 0, .int .i64 0])).run Tryz.prog w = .ok true w := by
  have u3 := Tryz.underlying3
  have hu : Tryz.prog.underlying 57 = some (.array 9 3) := by kernel_rfl
  obtain ⟨i0, hi, hz0, hz1, hz2⟩ := info_parts Tryz.infoIntW
  have hc : Tryz.prog.cellsOf 3 = 1 := by kernel_rfl
  rw [show (10000 : Nat) = 9999 + 1 from rfl, run_equalIn_array w 9999 _ _ hu hi, hc, show List.range 9 = [0, 1, 2, 3, 4, 5, 6, 7, 8] from rfl, show (9999 : Nat) = 9998 + 1 from rfl]
  have he : Tryz.prog.plainKey 3 = true := by kernel_rfl
  have step : ∀ (xs : Array Value) (j : Nat) (js : List Nat) (x : Int), xs[j]? = some (.int .i64 x) → (Op.eqItems (9998 + 1) 3 1 xs xs (j :: js)).run Tryz.prog w = (Op.eqItems (9998 + 1) 3 1 xs xs js).run Tryz.prog w := by
    intro xs j js x hx
    have h1 := run_part_plain w he (off := j * 1) (by rw [Nat.mul_one]; exact hx)
    have h3 := run_equalIn_int w 9998 3 .i64 .i64 x x u3
    simp only [Op.eqItems, Sem.run_bind, h1, h3, Result.andThen_ok]
    simp
  rw [step _ 0 _ a rfl, step _ 1 _ b rfl, step _ 2 _ c rfl, step _ 3 _ d rfl, step _ 4 _ e rfl, step _ 5 _ f rfl, step _ 6 _ g rfl, step _ 7 _ 0 rfl, step _ 8 _ 0 rfl]
  simp [Op.eqItems]
theorem infoBoo : (Tryz.prog.info? 4).map (fun i => (i.zero, i.size, i.bytes)) = some (some (.bool false), 1, 1) := by kernel_rfl
theorem eq_bools_self (a b c d e : Bool) (w : World) : (Op.equalIn 10000 58 (.agg #[.bool a, .bool b, .bool c, .bool d, .bool e]) (.agg #[.bool a, .bool b, .bool c, .bool d, .bool e])).run Tryz.prog w = .ok true w := by
  have u3 := Tryz.underlying4
  have hu : Tryz.prog.underlying 58 = some (.array 5 4) := by kernel_rfl
  obtain ⟨i0, hi, hz0, hz1, hz2⟩ := info_parts infoBoo
  have hc : Tryz.prog.cellsOf 4 = 1 := by kernel_rfl
  rw [show (10000 : Nat) = 9999 + 1 from rfl, run_equalIn_array w 9999 _ _ hu hi, hc, show List.range 5 = [0, 1, 2, 3, 4] from rfl, show (9999 : Nat) = 9998 + 1 from rfl]
  have he : Tryz.prog.plainKey 4 = true := by kernel_rfl
  have step : ∀ (xs : Array Value) (j : Nat) (js : List Nat) (x : Bool), xs[j]? = some (.bool x) → (Op.eqItems (9998 + 1) 4 1 xs xs (j :: js)).run Tryz.prog w = (Op.eqItems (9998 + 1) 4 1 xs xs js).run Tryz.prog w := by
    intro xs j js x hx
    have h1 := run_part_plain w he (off := j * 1) (by rw [Nat.mul_one]; exact hx)
    have h3 := run_equalIn_bool w 9998 4 x x u3
    simp only [Op.eqItems, Sem.run_bind, h1, h3, Result.andThen_ok]
    simp
  rw [step _ 0 _ a rfl, step _ 1 _ b rfl, step _ 2 _ c rfl, step _ 3 _ d rfl, step _ 4 _ e rfl]
  simp [Op.eqItems]
set_option maxRecDepth 100000 in
set_option maxHeartbeats 4000000 in
theorem samePacket_any (p q : Pk) (pay : List UInt8) (w : World) (h1 : PayAt w p pay) (h2 : PayAt w q pay) (hq : q = { p with pA := q.pA, pn := q.pn, pc := q.pc }) :
    Calls Tryz.prog 7 #[.agg (pkA p), .agg (pkA q)] w fun e w' => e = .returned (.bool true) ∧ Below w.heap.size w w' := by
  have HH1 := Lib.hid h1
  have HH2 := Lib.hid h2
  have HQ := Lib.hid hq
  clear h1 h2 hq
  have h41 := al21 w (.cells (pkA p) 31) (.cells (pkA q) 31)
  have h42 := al22 w (.cells (pkA p) 31) (.cells (pkA q) 31)
  have HB0 := Lib.hid (bl_al (bl_alloc w (.cells (pkA p) 31)) (o := .cells (pkA q) 31))
  go_enter Tryz.func7, Tryz.ntmps7
  go_upto_region 1 with (fail)
  generalize hW : World.alloc _ _ = W0 at h41 h42 HB0 ⊢
  have hsz : W0.heap.size = w.heap.size + 2 := by rw [← hW]; simp
  have HSZ := Lib.hid hsz
  clear hW hsz
  have H41 := Lib.hid h41
  have H42 := Lib.hid h42
  clear h41 h42
  go_cut [5, 6] from 7 to 8 (fun v5 v6 wc => ∃ X Y, v5 = .pointer (some ⟨X, 0, none⟩) ∧ v6 = .pointer (some ⟨Y, 0, none⟩) ∧ X ≠ Y ∧ W0.heap.size ≤ X ∧ W0.heap.size ≤ Y ∧ wc.heap[X]? = some (.cells (pkA p) 31 (0, 0)) ∧ wc.heap[Y]? = some (.cells (pkA q) 31 (0, 0)) ∧ Below W0.heap.size W0 wc)
  case first J K2 hJ hK =>
    refine wp_region_inv (fun L a w' => ∃ f, a = (fun f' => ⟨#[.agg (pkA p), .agg (pkA q), .pointer (some ⟨w.heap.size, 0, none⟩), .pointer (some ⟨w.heap.size + 1, 0, none⟩), .bool false, f' 2, f' 3, f' 0, f' 1, undef, undef, undef, undef, undef, undef, undef, undef, undef, undef, undef, undef, undef, undef, undef, undef, undef, undef, undef, undef, undef, undef, undef, undef, undef, undef, undef, undef, undef, undef, undef, undef, undef, undef, undef, undef, undef, undef, undef, undef, undef, undef, undef, undef, undef, undef, undef, undef, undef, undef, undef, undef, undef, undef, undef, undef, undef, undef, undef, undef, undef, undef, undef, undef, undef, undef, undef, undef, undef, undef, undef, undef, undef, undef, undef, undef, undef, undef, undef], []⟩ : (Nat → Value) → Act) f ∧ TwoF W0 (pkA p) (pkA q) (pkA noPk) 31 (fun j => L.getD j false) f w') (show Tryz.prog.follows .mixedOrders = true from by kernel_rfl) (regBack_ok (by kernel_rfl)) ?_ ?_ ⟨fun _ => undef, rfl, TwoF.start (fun j => by unfold Array.getD; split <;> simp)⟩
    · intro i o L a w' ho hs hf hd hI
      obtain ⟨f, rfl, h⟩ := hI
      have hi : i < 6 := (Array.getElem?_eq_some_iff.1 ho).1
      have hl : L.size = 6 := hs
      have hg : (fun j => (L.setIfInBounds i true).getD j false) = updB (fun j => L.getD j false) i := funext fun j => getD_set L i j false (by omega)
      have hil : i < L.size := by omega
      have hf' : (fun j => L.getD j false) i = false := (getD_tf hil).symm.trans hf
      rw [hg]
      generalize hL : (fun j => L.getD j false) = l at h hf' ⊢
      have hd' : ∀ k, L.getD k false = true → l k = true := fun k hk => by rw [← hL]; exact hk
      have hb1 := (h.bl.block w.heap.size (by have := HSZ.out; omega)).trans H41.out
      have hb2 := (h.bl.block (w.heap.size + 1) (by have := HSZ.out; omega)).trans H42.out
      have hcase : i = 0 ∨ i = 1 ∨ i = 2 ∨ i = 3 ∨ i = 4 ∨ i = 5 := by omega
      rcases hcase with rfl | rfl | rfl | rfl | rfl | rfl <;> (replace ho := Option.some.inj ho; subst ho; refine ⟨rfl, ?_⟩)
      · refine load_step rfl hb1 (by kernel_rfl) (by kernel_rfl) ?_
        exact ⟨_, rfl, h.s0⟩
      · refine load_step rfl hb2 (by kernel_rfl) (by kernel_rfl) ?_
        exact ⟨_, rfl, h.s1⟩
      · unfold Oper.wp
        go_simp
        exact ⟨_, (by simp [upd]), h.s2 hf'⟩
      · unfold Oper.wp
        go_simp
        exact ⟨_, (by simp [upd]), h.s3 hf'⟩
      · have l2 : l 2 = true := hd' 2 (hd ⟨2, .data⟩ (by simp) rfl)
        have l0 : l 0 = true := hd' 0 (hd ⟨0, .data⟩ (by simp) rfl)
        have l3 : l 3 = true := hd' 3 (hd ⟨3, .phase⟩ (by simp) rfl)
        obtain ⟨X, e2, hX, hbX⟩ := h.l2 l2
        refine store_step (vs := pkA p) e2 (h.l0 l0) hbX ?_ (by kernel_rfl) (by simp [Value.oneCell', pkA]) (fun W hr => ⟨f, rfl, h.s4 l2 l3 e2 hr⟩)
        split <;> rfl
      · have l2 : l 2 = true := hd' 2 (hd ⟨2, .phase⟩ (by simp) rfl)
        have l1 : l 1 = true := hd' 1 (hd ⟨1, .data⟩ (by simp) rfl)
        have l3 : l 3 = true := hd' 3 (hd ⟨3, .data⟩ (by simp) rfl)
        obtain ⟨Y, e3, hY, hbY⟩ := h.l3 l3
        refine store_step (vs := pkA q) e3 (h.l1 l1) hbY ?_ (by kernel_rfl) (by simp [Value.oneCell', pkA]) (fun W hr => ⟨f, rfl, h.s5 l2 l3 e3 hr⟩)
        split <;> rfl
    · intro L a w' hs hl hI
      obtain ⟨f, rfl, h⟩ := hI
      obtain ⟨X, e2, hX, hbX⟩ := h.l2 (hl 2 (by show 2 < 6; omega))
      obtain ⟨Y, e3, hY, hbY⟩ := h.l3 (hl 3 (by show 3 < 6; omega))
      rw [if_pos (hl 4 (by show 4 < 6; omega))] at hbX
      rw [if_pos (hl 5 (by show 5 < 6; omega))] at hbY
      have hne := h.ne (hl 2 (by show 2 < 6; omega)) (hl 3 (by show 3 < 6; omega))
      have HFI := Lib.hid (And.intro hX (And.intro hY (And.intro hbX (And.intro hbY h.bl))))
      have hXY : X ≠ Y := fun c => hne (by rw [e2, e3, c])
      dsimp only
      rw [e2, e3]
      have HXY := Lib.hid hXY
      clear hX hY hbX hbY h hne hXY e2 e3 hl
      exact hK _ _ (hJ _ _ ⟨_, _, _, _, ⟨X, Y, rfl, rfl, HXY.out, HFI.out.1, HFI.out.2.1, HFI.out.2.2.1, HFI.out.2.2.2.1, HFI.out.2.2.2.2⟩, rfl⟩)
  case rest =>
  obtain ⟨X, Y, rfl, rfl, hne, hX, hY, hbX, hbY, hb⟩ := hcut
  obtain ⟨W1, rfl⟩ : ∃ W1 : World, W1 = wc := ⟨_, rfl⟩
  have HB1 := Lib.hid hb
  have H1 := Lib.hid hbX
  have H2 := Lib.hid hbY
  have hXl := lt_of_block hbX
  have hYl := lt_of_block hbY
  have hneq : Y ≠ X := fun c => hne c.symm
  have xX : W1.cell? ⟨X, 18, none⟩ = some (.slice p.pA p.pn p.pc) := cell_of hbX 18
  have zX : W1.frozen? ⟨X, 18, none⟩ = false := by simp [World.frozen?, hbX]
  have xY : W1.cell? ⟨Y, 18, none⟩ = some (.slice q.pA q.pn q.pc) := cell_of hbY 18
  have zY : W1.frozen? ⟨Y, 18, none⟩ = false := by simp [World.frozen?, hbY]
  have hbP := (hb.block w.heap.size (by have := HSZ.out; omega)).trans H41.out
  have hbQ := (hb.block (w.heap.size + 1) (by have := HSZ.out; omega)).trans H42.out
  have hPl : w.heap.size < W0.heap.size := by have := HSZ.out; omega
  have hQl : w.heap.size + 1 < W0.heap.size := by have := HSZ.out; omega
  have HS : Hid (Below W0.heap.size W0 ((W1.setCell ⟨X, 18, none⟩ (.slice none 0 0)).setCell ⟨Y, 18, none⟩ (.slice none 0 0)) ∧ ((W1.setCell ⟨X, 18, none⟩ (.slice none 0 0)).setCell ⟨Y, 18, none⟩ (.slice none 0 0)).heap[X]? = some (.cells ((pkA p).setIfInBounds 18 (.slice none 0 0)) 31 (0, 0)) ∧ ((W1.setCell ⟨X, 18, none⟩ (.slice none 0 0)).setCell ⟨Y, 18, none⟩ (.slice none 0 0)).heap[Y]? = some (.cells ((pkA p).setIfInBounds 18 (.slice none 0 0)) 31 (0, 0))) := Lib.hid (by
    have r1 := (Re.refl hbX).set 18 (.slice none 0 0)
    have r2 := (Re.refl (r1.oth Y hneq |>.trans hbY)).set 18 (.slice none 0 0)
    refine ⟨r2.below (r1.below hb hX) hY, (r2.oth X hne).trans r1.blk, r2.blk.trans ?_⟩
    rw [HQ.out]
    rfl)
  have x18 : W1.cell? ⟨w.heap.size, 18, none⟩ = some (.slice p.pA p.pn p.pc) := cell_of hbP 18
  have y18 : W1.cell? ⟨w.heap.size + 1, 18, none⟩ = some (.slice q.pA q.pn q.pc) := cell_of hbQ 18
  have nX : X ≠ w.heap.size := by omega
  have nX1 : X ≠ w.heap.size + 1 := by omega
  have nY : Y ≠ w.heap.size := by omega
  have nY1 : Y ≠ w.heap.size + 1 := by omega
  have lP1 : w.heap.size < W1.heap.size := lt_of_block hbP
  have lQ1 : w.heap.size + 1 < W1.heap.size := lt_of_block hbQ
  have hl1 := HH1.out.len
  have hl2 := HH2.out.len
  have hle := HH1.out.le
  clear hbX hbY hb hbP hbQ H1 H2
  go_upto_region 3 with (fail)
  generalize hW : World.setCell _ _ _ = W2 at HS ⊢
  clear hW xX zX xY zY x18 y18
  have HB2 : Hid (Below w.heap.size w W2) := Lib.hid (HB0.out.trans (HS.out.1.mono HB0.out.size))
  have x18 : W2.cell? ⟨w.heap.size, 18, none⟩ = some (.slice p.pA p.pn p.pc) := cell_of ((HS.out.1.block w.heap.size hPl).trans H41.out) 18
  have y18 : W2.cell? ⟨w.heap.size + 1, 18, none⟩ = some (.slice q.pA q.pn q.pc) := cell_of ((HS.out.1.block (w.heap.size + 1) hQl).trans H42.out) 18
  go_wp2_with fail
  refine (equalB_any p.pA q.pA p.pn q.pn p.pc q.pc pay pay W2 (HH1.out.at_.below HB2.out) (HH2.out.at_.below HB2.out) hl1 hl2 (by omega)).mono ?_
  rintro e W3 ⟨rfl, hb3⟩
  rw [decide_eq_true (rfl : pay = pay)]
  have hx3 := (hb3.block X (lt_of_block HS.out.2.1)).trans HS.out.2.1
  have hy3 := (hb3.block Y (lt_of_block HS.out.2.2)).trans HS.out.2.2
  have HF : Hid (Below w.heap.size w W3) := Lib.hid (HB2.out.trans (hb3.mono HB2.out.size))
  clear hb3 x18 y18
  have x0 : W3.cell? ⟨X, 0, none⟩ = some (.bool p.f.s6) := cell_of hx3 0
  have x1 : W3.cell? ⟨X, 1, none⟩ = some (.int .u64 p.f.sh) := cell_of hx3 1
  have x2 : W3.cell? ⟨X, 2, none⟩ = some (.int .u64 p.f.sl) := cell_of hx3 2
  have x3 : W3.cell? ⟨X, 3, none⟩ = some (.bool p.f.t6) := cell_of hx3 3
  have x4 : W3.cell? ⟨X, 4, none⟩ = some (.int .u64 p.f.th) := cell_of hx3 4
  have x5 : W3.cell? ⟨X, 5, none⟩ = some (.int .u64 p.f.tl) := cell_of hx3 5
  have x6 : W3.cell? ⟨X, 6, none⟩ = some (.int .i64 p.hops) := cell_of hx3 6
  have x7 : W3.cell? ⟨X, 7, none⟩ = some (.int .i64 p.f.proto) := cell_of hx3 7
  have x8 : W3.cell? ⟨X, 8, none⟩ = some (.int .i64 p.f.fp) := cell_of hx3 8
  have x9 : W3.cell? ⟨X, 9, none⟩ = some (.int .i64 p.f.tp) := cell_of hx3 9
  have x10 : W3.cell? ⟨X, 10, none⟩ = some (.bool p.syn) := cell_of hx3 10
  have x11 : W3.cell? ⟨X, 11, none⟩ = some (.bool p.fin) := cell_of hx3 11
  have x12 : W3.cell? ⟨X, 12, none⟩ = some (.bool p.rst) := cell_of hx3 12
  have x13 : W3.cell? ⟨X, 13, none⟩ = some (.bool p.has) := cell_of hx3 13
  have x14 : W3.cell? ⟨X, 14, none⟩ = some (.int .i64 p.seq) := cell_of hx3 14
  have x15 : W3.cell? ⟨X, 15, none⟩ = some (.int .i64 p.ack) := cell_of hx3 15
  have x16 : W3.cell? ⟨X, 16, none⟩ = some (.bool p.reply) := cell_of hx3 16
  have x17 : W3.cell? ⟨X, 17, none⟩ = some (.int .i64 p.id) := cell_of hx3 17
  have y0 : W3.cell? ⟨Y, 0, none⟩ = some (.bool p.f.s6) := cell_of hy3 0
  have y1 : W3.cell? ⟨Y, 1, none⟩ = some (.int .u64 p.f.sh) := cell_of hy3 1
  have y2 : W3.cell? ⟨Y, 2, none⟩ = some (.int .u64 p.f.sl) := cell_of hy3 2
  have y3 : W3.cell? ⟨Y, 3, none⟩ = some (.bool p.f.t6) := cell_of hy3 3
  have y4 : W3.cell? ⟨Y, 4, none⟩ = some (.int .u64 p.f.th) := cell_of hy3 4
  have y5 : W3.cell? ⟨Y, 5, none⟩ = some (.int .u64 p.f.tl) := cell_of hy3 5
  have y6 : W3.cell? ⟨Y, 6, none⟩ = some (.int .i64 p.hops) := cell_of hy3 6
  have y7 : W3.cell? ⟨Y, 7, none⟩ = some (.int .i64 p.f.proto) := cell_of hy3 7
  have y8 : W3.cell? ⟨Y, 8, none⟩ = some (.int .i64 p.f.fp) := cell_of hy3 8
  have y9 : W3.cell? ⟨Y, 9, none⟩ = some (.int .i64 p.f.tp) := cell_of hy3 9
  have y10 : W3.cell? ⟨Y, 10, none⟩ = some (.bool p.syn) := cell_of hy3 10
  have y11 : W3.cell? ⟨Y, 11, none⟩ = some (.bool p.fin) := cell_of hy3 11
  have y12 : W3.cell? ⟨Y, 12, none⟩ = some (.bool p.rst) := cell_of hy3 12
  have y13 : W3.cell? ⟨Y, 13, none⟩ = some (.bool p.has) := cell_of hy3 13
  have y14 : W3.cell? ⟨Y, 14, none⟩ = some (.int .i64 p.seq) := cell_of hy3 14
  have y15 : W3.cell? ⟨Y, 15, none⟩ = some (.int .i64 p.ack) := cell_of hy3 15
  have y16 : W3.cell? ⟨Y, 16, none⟩ = some (.bool p.reply) := cell_of hy3 16
  have y17 : W3.cell? ⟨Y, 17, none⟩ = some (.int .i64 p.id) := cell_of hy3 17
  have g1 : Tryz.prog.eqGuardType Tryz.prog.depth 28 = false := by kernel_rfl
  have g2 : Tryz.prog.eqGuardType Tryz.prog.depth 57 = false := by kernel_rfl
  have g3 : Tryz.prog.eqGuardType Tryz.prog.depth 58 = false := by kernel_rfl
  have r1 := fun W => eq_addr_self p.f.s6 p.f.sh p.f.sl W
  have r2 := fun W => eq_addr_self p.f.t6 p.f.th p.f.tl W
  have r3 := fun W => eq_ints_self p.hops p.f.proto p.f.fp p.f.tp p.seq p.ack p.id W
  have r4 := fun W => eq_bools_self p.syn p.fin p.rst p.has p.reply W
  clear hx3 hy3
  go_wp2_with fail
  go_ret
  exact ⟨rfl, HF.out⟩
end Go.Proofs.YtfakfhbcpldeoaaGreatDoor
