/- A region that draws its order, some of whose operations are not wanted. A region that draws its order, whose values are known one and all, and whose state is known by the operations that have been. Structs that are loaded and stored whole, wherever they lie. Spans of the reference in memory. -/
import Derived.Test.YtajifionclpphaaGreatDoorRgT
import Derived.Test.YtajifionclpphaaGreatDoorAdR
import Derived.Test.YtajifionclpphaaGreatDoorSwC
import Derived.OwnWalk
import Derived.Deep.RegionHeld3
import Derived.Deep.RegionLaw
import Derived.Deep.Cut
import Derived.Deep.CutRange
import Derived.StillTailTactics
import Derived.Test.YtajifionclpphaaGreatDoorShelf
namespace Go.Proofs.YtajifionclpphaaGreatDoor

/-- One operation: run if it is wanted, else passed over. -/
def OpStep (P : Program) (ops : Array Oper) (Q : Exit → Act → World → Prop) (o : Oper) (a : Act) (w : World) (K : Act → World → Prop) : Prop :=
  if Region.wanted o (yielded ops a.tmps) = true then o.wp P a w K Q else K (a.put o.dst undef) w
section
variable {P : Program} {ops : Array Oper} {Q : Exit → Act → World → Prop} {md : Region.Mode}
theorem OpStep.of {o : Oper} {a : Act} {w : World} {K : Act → World → Prop} (h : Region.wanted o (yielded ops a.tmps) = true) (k : o.wp P a w K Q) : OpStep P ops Q o a w K := by
  unfold OpStep; rw [if_pos h]; exact k
theorem OpStep.not {o : Oper} {a : Act} {w : World} {K : Act → World → Prop} (h : Region.wanted o (yielded ops a.tmps) = false) (k : K (a.put o.dst undef) w) : OpStep P ops Q o a w K := by
  unfold OpStep; rw [if_neg (by rw [h]; decide)]; exact k
theorem OpStep.mono {o : Oper} {a : Act} {w : World} {K K' : Act → World → Prop} (h : ∀ a w, K a w → K' a w) (k : OpStep P ops Q o a w K) : OpStep P ops Q o a w K' := by
  unfold OpStep at *
  split
  · rename_i hw; rw [if_pos hw] at k; exact Oper.wp_mono h k
  · rename_i hw; rw [if_neg hw] at k; exact h _ _ k
theorem wpAny_inv2 (I : Array Bool → Act → World → Prop)
    (hback : ∀ (i : Nat) (o : Oper), ops[i]? = some o → ∀ e ∈ o.after, Region.binds md e = true → e.on < i)
    (hstep : ∀ (i : Nat) (o : Oper) (listed : Array Bool) (a : Act) (w : World), ops[i]? = some o → listed.size = ops.size → listed.getD i true = false → (∀ e ∈ o.after, Region.binds md e = true → listed.getD e.on false = true) → I listed a w → OpStep P ops Q o a w (fun a' w' => I (listed.setIfInBounds i true) a' w'))
    (hend : ∀ (listed : Array Bool) (a : Act) (w : World), listed.size = ops.size → (∀ i, i < ops.size → listed.getD i false = true) → I listed a w → Q .normal a w) :
    ∀ (fuel : Nat) (listed : Array Bool) (a : Act) (w : World), listed.size = ops.size → listed.toList.count false ≤ fuel → I listed a w → wpAny P md ops Q fuel listed a w := by
  have hall : ∀ listed : Array Bool, listed.size = ops.size → Region.ready md ops listed = [] → ∀ i, i < ops.size → listed.getD i false = true := by
    intro listed hs hr i
    induction i using Nat.strongRecOn with
    | _ i ih =>
      intro hi
      cases hc : listed.getD i false
      · exfalso
        have hmem : i ∈ Region.ready md ops listed := by
          unfold Region.ready
          refine List.mem_filter.2 ⟨List.mem_range.2 hi, ?_⟩
          have h1 : listed.getD i true = false := by
            have : i < listed.size := by omega
            simp [Array.getD, this] at hc ⊢
            exact hc
          have ho : ops[i]? = some ops[i] := by simp [hi]
          rw [h1, ho]
          simp only [Bool.not_false, Bool.true_and, Option.map_some, Option.getD_some, Array.all_eq_true', Bool.or_eq_true, Bool.not_eq_true']
          intro e he
          cases hb : Region.binds md e
          · exact .inl rfl
          · right
            have hlt := hback i _ ho e he hb
            have := ih e.on hlt (by omega)
            have hsz : e.on < listed.size := by omega
            exact this
        rw [hr] at hmem
        cases hmem
      · rfl
  intro fuel
  induction fuel with
  | zero =>
    intro listed a w hs hc hI
    have hl : ∀ i, i < ops.size → listed.getD i false = true := by
      intro i hi
      have h1 := count_none listed.toList (by omega) i (by simp; omega)
      rw [getD_list false (by omega)] at h1
      exact Option.some.inj h1
    refine ⟨?_, hend listed a w hs hl hI⟩
    unfold Region.ready
    refine List.filter_eq_nil_iff.2 fun i hi => ?_
    have hi' := List.mem_range.1 hi
    have := hl i hi'
    have hsz : i < listed.size := by omega
    simp [Array.getD, hsz] at this ⊢
    intro h
    rw [this] at h
    cases h
  | succ fuel ih =>
    intro listed a w hs hc hI
    refine ⟨fun hr => hend listed a w hs (hall listed hs hr) hI, fun i hi => ?_⟩
    unfold Region.ready at hi
    obtain ⟨hr, hp⟩ := List.mem_filter.1 hi
    have hlt := List.mem_range.1 hr
    have ho : ops[i]? = some ops[i] := by simp [hlt]
    rw [ho] at hp
    simp only [Option.map_some, Option.getD_some, Bool.and_eq_true, Bool.not_eq_true', Array.all_eq_true', Bool.or_eq_true] at hp
    obtain ⟨hf, hd⟩ := hp
    unfold wpOp
    rw [ho]
    have hst := hstep i _ listed a w ho hs hf (fun e he hb => by
      rcases hd e he with h | h
      · rw [hb] at h; cases h
      · exact h) hI
    have hcount : (listed.setIfInBounds i true).toList.count false ≤ fuel := by
      have h1 : listed.toList[i]? = some false := by rw [getD_list true (by omega), hf]
      have := count_set_false listed.toList i h1
      simp
      omega
    unfold OpStep at hst
    by_cases hw : Region.wanted ops[i] (yielded ops a.tmps) = true
    · rw [if_pos hw] at hst
      simp only [hw, if_true]
      left
      exact Oper.wp_mono (fun a' w' hI' => ih _ a' w' (by simpa using hs) hcount hI') hst
    · rw [if_neg hw] at hst
      simp only [hw]
      exact ih _ _ _ (by simpa using hs) hcount hst
theorem wp_region_inv2 {id : Nat} {a : Act} {w : World} (I : Array Bool → Act → World → Prop) (hm : P.follows .mixedOrders = true)
    (hback : ∀ (i : Nat) (o : Oper), ops[i]? = some o → ∀ e ∈ o.after, Region.binds .any e = true → e.on < i)
    (hstep : ∀ (i : Nat) (o : Oper) (listed : Array Bool) (a : Act) (w : World), ops[i]? = some o → listed.size = ops.size → listed.getD i true = false → (∀ e ∈ o.after, Region.binds .any e = true → listed.getD e.on false = true) → I listed a w → OpStep P ops Q o a w (fun a' w' => I (listed.setIfInBounds i true) a' w'))
    (hend : ∀ (listed : Array Bool) (a : Act) (w : World), listed.size = ops.size → (∀ i, i < ops.size → listed.getD i false = true) → I listed a w → Q .normal a w)
    (h0 : I (Array.replicate ops.size false) a { w with drawn := w.drawn + 1 }) : (Code.region id ops true).wp P Q a w :=
  wp_region_any hm (wpAny_inv2 I hback hstep hend _ _ _ _ (by simp) (by simp) h0)
/-- The last operation waits for all others; of each other one there is what its value is (V), which nothing takes back (Gr). -/
theorem wp_region_draws2 {id n : Nat} {w : World} (A : (Nat → Value) → Act) (V : Nat → World → Value → Prop) (G : Nat → World → Prop) (Gr : World → World → Prop) (f0 : Nat → Value)
    (hm : P.follows .mixedOrders = true) (hsz : ops.size = n + 1)
    (hback : ∀ (i : Nat) (o : Oper), ops[i]? = some o → ∀ e ∈ o.after, Region.binds .any e = true → e.on < i)
    (hsink : ∀ D : Nat → Prop, (∀ (j : Nat) (o : Oper), ops[j]? = some o → (j = n ∨ D j) → ∀ e ∈ o.after, Region.binds .any e = true → D e.on) → ∀ i, i < n → D i)
    (stable : ∀ i w w' v, V i w v → Gr w w' → V i w' v)
    (step : ∀ (i : Nat) (o : Oper), i < n → ops[i]? = some o → ∀ (f : Nat → Value) (w : World) (k : Nat), k ≤ n → G k w → (∀ e ∈ o.after, Region.binds .any e = true → V e.on w (f e.on)) →
      OpStep P ops Q o (A f) w (fun a' w' => ∃ v, a' = A (upd f i v) ∧ V i w' v ∧ G (k + 1) w' ∧ Gr w w'))
    (last : ∀ (o : Oper), ops[n]? = some o → ∀ (f : Nat → Value) (w : World) (k : Nat), k ≤ n → G k w → (∀ j, j < n → V j w (f j)) → Region.wanted o (yielded ops (A f).tmps) = true ∧ o.wp P (A f) w (fun a' w' => Q .normal a' w') Q)
    (h0 : G 0 { w with drawn := w.drawn + 1 }) : (Code.region id ops true).wp P Q (A f0) w := by
  refine wp_region_inv2 (fun listed a w => (listed.getD n false = true ∧ (∀ j, j < n → listed.getD j false = true) ∧ Q .normal a w) ∨ (listed.getD n false = false ∧ ∃ f k, a = A f ∧ k + listed.toList.count false = n + 1 ∧ (∀ (j : Nat) (o : Oper), ops[j]? = some o → listed.getD j false = true → ∀ e ∈ o.after, Region.binds .any e = true → listed.getD e.on false = true) ∧ G k w ∧ ∀ j, j < n → listed.getD j false = true → V j w (f j))) hm hback ?_ ?_ ?_
  · intro i o listed a w ho hs hf hd hI
    have hin : i < ops.size := (Array.getElem?_eq_some_iff.1 ho).1
    have hil : i < listed.size := by omega
    have hf' : listed.getD i false = false := by rw [← getD_tf hil]; exact hf
    have hcnt := count_set_false listed.toList i (by rw [getD_list true hil, hf])
    rcases hI with ⟨h1, h2, h3⟩ | ⟨h1, f, k, rfl, hk, hcl, hG, hV⟩
    · exfalso
      by_cases e : i = n
      · rw [e, h1] at hf'; cases hf'
      · rw [h2 i (by omega)] at hf'; cases hf'
    · by_cases e : i = n
      · subst e
        have hall : ∀ j, j < i → listed.getD j false = true := hsink (fun j => listed.getD j false = true) (fun j o' ho' hj e he hb => by
          rcases hj with rfl | hj
          · rw [ho] at ho'; injection ho' with ho'; subst ho'; exact hd e he hb
          · exact hcl j o' ho' hj e he hb)
        have hla := last o ho f w k (by omega) hG (fun j hj => hV j hj (hall j hj))
        refine OpStep.of hla.1 (Oper.wp_mono (fun a' w' hq => .inl ⟨?_, fun j hj => ?_, hq⟩) hla.2)
        · rw [getD_set _ _ _ _ hil, if_pos rfl]
        · rw [getD_set _ _ _ _ hil, if_neg (by omega)]; exact hall j hj
      · have hla := step i o (by omega) ho f w k (by omega) hG (fun e he hb => hV e.on (by have := hback i o ho e he hb; omega) (hd e he hb))
        refine OpStep.mono (fun a' w' hq => ?_) hla
        obtain ⟨v, rfl, hv, hG', hgr⟩ := hq
        refine .inr ⟨by rw [getD_set _ _ _ _ hil, if_neg (fun c => e c.symm)]; exact h1, upd f i v, k + 1, rfl, by simp; omega, fun j o' ho' hj ed hed hb => ?_, hG', fun j hj hl => ?_⟩
        · rw [getD_set _ _ _ _ hil] at hj ⊢
          by_cases ee : ed.on = i
          · rw [if_pos ee]
          · rw [if_neg ee]
            by_cases ej : j = i
            · subst ej
              rw [ho] at ho'; injection ho' with ho'; subst ho'
              exact hd ed hed hb
            · rw [if_neg ej] at hj
              exact hcl j o' ho' hj ed hed hb
        by_cases ej : j = i
        · subst ej; rw [upd_same]; exact hv
        · rw [upd_ne _ _ _ _ ej]
          rw [getD_set _ _ _ _ hil, if_neg ej] at hl
          exact stable _ _ _ _ (hV j hj hl) hgr
  · intro listed a w hs hl hI
    rcases hI with ⟨_, _, h⟩ | ⟨h, _⟩
    · exact h
    · rw [hl n (by omega)] at h; cases h
  · refine .inr ⟨by simp [Array.getD, hsz], f0, 0, rfl, by simp [hsz], fun j o' ho' hj => by simp [Array.getD] at hj, h0, fun j hj hl => ?_⟩
    simp [Array.getD] at hl
end
def regOkF (ops : Array Oper) (n K : Nat) : Bool :=
  ops.size == n + 1 && (List.range ops.size).all (fun i => match ops[i]? with | some o => o.after.toList.all (fun e => !Region.binds .any e || decide (e.on < i)) | none => true) &&
    (List.range n).all (fun i => (reachS ops n K).contains i)
theorem wp_region_free {P : Program} {ops : Array Oper} {Q : Exit → Act → World → Prop} {id : Nat} (n : Nat) {w : World} (A : (Nat → Value) → Act) (V : Nat → World → Value → Prop) (G : Nat → World → Prop) (Gr : World → World → Prop) (f0 : Nat → Value) (K : Nat)
    (hm : P.follows .mixedOrders = true) (hok : regOkF ops n K = true)
    (stable : ∀ i w w' v, V i w v → Gr w w' → V i w' v)
    (step : ∀ (i : Nat) (o : Oper), i < n → ops[i]? = some o → ∀ (f : Nat → Value) (w : World) (k : Nat), k ≤ n → G k w → (∀ e ∈ o.after, Region.binds .any e = true → V e.on w (f e.on)) →
      OpStep P ops Q o (A f) w (fun a' w' => ∃ v, a' = A (upd f i v) ∧ V i w' v ∧ G (k + 1) w' ∧ Gr w w'))
    (last : ∀ (o : Oper), ops[n]? = some o → ∀ (f : Nat → Value) (w : World) (k : Nat), k ≤ n → G k w → (∀ j, j < n → V j w (f j)) → Region.wanted o (yielded ops (A f).tmps) = true ∧ o.wp P (A f) w (fun a' w' => Q .normal a' w') Q)
    (h0 : G 0 { w with drawn := w.drawn + 1 }) : (Code.region id ops true).wp P Q (A f0) w := by
  unfold regOkF at hok
  simp only [Bool.and_eq_true, beq_iff_eq, List.all_eq_true, List.mem_range] at hok
  obtain ⟨⟨h1, h2⟩, h3⟩ := hok
  refine wp_region_draws2 A V G Gr f0 hm h1 ?_ ?_ stable step last h0
  · intro i o ho e he hb
    have := h2 i (Array.getElem?_eq_some_iff.1 ho).1
    rw [ho] at this
    simp only [List.all_eq_true, Bool.or_eq_true, Bool.not_eq_true', decide_eq_true_eq] at this
    rcases this e (Array.mem_toList_iff.2 he) with h | h
    · rw [hb] at h; cases h
    · exact h
  · intro D hD i hi
    have := h3 i hi
    exact reachS_sink D hD K i (by simpa using this)
end Go.Proofs.YtajifionclpphaaGreatDoor

namespace Go.Proofs.YtajifionclpphaaGreatDoor


def updB (l : Nat → Bool) (i : Nat) : Nat → Bool := fun j => if j = i then true else l j
theorem wp_region_exact {P : Program} {ops : Array Oper} {Q : Exit → Act → World → Prop} {id : Nat} (n : Nat) {w : World} (A : (Nat → Value) → Act) (val : Nat → Value) (S : (Nat → Bool) → World → Prop) (f0 : Nat → Value) (K : Nat)
    (hm : P.follows .mixedOrders = true) (hok : regOkF ops n K = true)
    (step : ∀ (i : Nat) (o : Oper), i < n → ops[i]? = some o → ∀ (l : Nat → Bool) (f : Nat → Value) (w : World), l i = false → S l w → (∀ e ∈ o.after, Region.binds .any e = true → l e.on = true ∧ f e.on = val e.on) →
      OpStep P ops Q o (A f) w (fun a' w' => a' = A (upd f i (val i)) ∧ S (updB l i) w'))
    (last : ∀ (o : Oper), ops[n]? = some o → ∀ (l : Nat → Bool) (f : Nat → Value) (w : World), (∀ j, j < n → l j = true ∧ f j = val j) → S l w → Region.wanted o (yielded ops (A f).tmps) = true ∧ o.wp P (A f) w (fun a' w' => Q .normal a' w') Q)
    (h0 : S (fun _ => false) { w with drawn := w.drawn + 1 }) : (Code.region id ops true).wp P Q (A f0) w := by
  unfold regOkF at hok
  simp only [Bool.and_eq_true, beq_iff_eq, List.all_eq_true, List.mem_range] at hok
  obtain ⟨⟨hsz, h2⟩, h3⟩ := hok
  have hback : ∀ (i : Nat) (o : Oper), ops[i]? = some o → ∀ e ∈ o.after, Region.binds .any e = true → e.on < i := by
    intro i o ho e he hb
    have := h2 i (Array.getElem?_eq_some_iff.1 ho).1
    rw [ho] at this
    simp only [List.all_eq_true, Bool.or_eq_true, Bool.not_eq_true', decide_eq_true_eq] at this
    rcases this e (Array.mem_toList_iff.2 he) with h | h
    · rw [hb] at h; cases h
    · exact h
  have hsink : ∀ D : Nat → Prop, (∀ (j : Nat) (o : Oper), ops[j]? = some o → (j = n ∨ D j) → ∀ e ∈ o.after, Region.binds .any e = true → D e.on) → ∀ i, i < n → D i := by
    intro D hD i hi
    have := h3 i hi
    exact reachS_sink D hD K i (by simpa using this)
  refine wp_region_inv2 (fun L a w => (L.getD n false = true ∧ (∀ j, j < n → L.getD j false = true) ∧ Q .normal a w) ∨ (L.getD n false = false ∧ ∃ f, a = A f ∧ (∀ (j : Nat) (o : Oper), ops[j]? = some o → L.getD j false = true → ∀ e ∈ o.after, Region.binds .any e = true → L.getD e.on false = true) ∧ S (fun j => L.getD j false) w ∧ ∀ j, j < n → L.getD j false = true → f j = val j)) hm hback ?_ ?_ ?_
  · intro i o L a w ho hs hf hd hI
    have hin : i < ops.size := (Array.getElem?_eq_some_iff.1 ho).1
    have hil : i < L.size := by omega
    have hf' : L.getD i false = false := by rw [← getD_tf hil]; exact hf
    have hg : (fun j => (L.setIfInBounds i true).getD j false) = updB (fun j => L.getD j false) i := funext fun j => getD_set L i j false hil
    rcases hI with ⟨h1, h2, h3⟩ | ⟨h1, f, rfl, hcl, hS, hV⟩
    · exfalso
      by_cases e : i = n
      · rw [e, h1] at hf'; cases hf'
      · rw [h2 i (by omega)] at hf'; cases hf'
    · by_cases e : i = n
      · subst e
        have hall : ∀ j, j < i → L.getD j false = true := hsink (fun j => L.getD j false = true) (fun j o' ho' hj e he hb => by
          rcases hj with rfl | hj
          · rw [ho] at ho'; injection ho' with ho'; subst ho'; exact hd e he hb
          · exact hcl j o' ho' hj e he hb)
        have hla := last o ho (fun j => L.getD j false) f w (fun j hj => ⟨hall j hj, hV j hj (hall j hj)⟩) hS
        refine OpStep.of hla.1 (Oper.wp_mono (fun a' w' hq => .inl ⟨?_, fun j hj => ?_, hq⟩) hla.2)
        · rw [getD_set _ _ _ _ hil, if_pos rfl]
        · rw [getD_set _ _ _ _ hil, if_neg (by omega)]; exact hall j hj
      · have hla := step i o (by omega) ho (fun j => L.getD j false) f w hf' hS (fun e he hb => ⟨hd e he hb, hV e.on (by have := hback i o ho e he hb; omega) (hd e he hb)⟩)
        refine OpStep.mono (fun a' w' hq => ?_) hla
        obtain ⟨rfl, hS'⟩ := hq
        refine .inr ⟨by rw [getD_set _ _ _ _ hil, if_neg (fun c => e c.symm)]; exact h1, upd f i (val i), rfl, fun j o' ho' hj ed hed hb => ?_, by rw [hg]; exact hS', fun j hj hl => ?_⟩
        · rw [getD_set _ _ _ _ hil] at hj ⊢
          by_cases ee : ed.on = i
          · rw [if_pos ee]
          · rw [if_neg ee]
            by_cases ej : j = i
            · subst ej
              rw [ho] at ho'; injection ho' with ho'; subst ho'
              exact hd ed hed hb
            · rw [if_neg ej] at hj
              exact hcl j o' ho' hj ed hed hb
        by_cases ej : j = i
        · subst ej; rw [upd_same]
        · rw [upd_ne _ _ _ _ ej]
          rw [getD_set _ _ _ _ hil, if_neg ej] at hl
          exact hV j hj hl
  · intro L a w hs hl hI
    rcases hI with ⟨_, _, h⟩ | ⟨h, _⟩
    · exact h
    · rw [hl n (by omega)] at h; cases h
  · have hz : (fun j => (Array.replicate ops.size false).getD j false) = fun _ => false := funext fun j => by unfold Array.getD; split <;> simp
    refine .inr ⟨by simp [Array.getD, hsz], f0, rfl, fun j o' ho' hj => by simp [Array.getD] at hj, by rw [hz]; exact h0, fun j hj hl => ?_⟩
    simp [Array.getD] at hl
end Go.Proofs.YtajifionclpphaaGreatDoor

namespace Go.Proofs.YtajifionclpphaaGreatDoor
open Go.RowKit Go.Hw

end Go.Proofs.YtajifionclpphaaGreatDoor

namespace Go.Proofs.YtajifionclpphaaGreatDoor
open Go.RowKit Go.Hw

def spC (e : Rg) : List Value := [.int .i64 (wd e.six e.hi e.lo 0), .int .i64 (wd e.six e.hi e.lo 1), .int .i64 (wd e.six e.hi e.lo 2), .int .i64 (wd e.six e.hi e.lo 3), .int .i64 (wd e.six e.hi e.lo 4), .int .i64 (wd e.six e.hi e.lo 5), .int .i64 (wd e.six e.hi e.lo 6), .int .i64 (wd e.six e.hi e.lo 7), .int .i64 (wd e.six e.hi e.lo 8), .int .i64 (wd e.six2 e.hi2 e.lo2 0), .int .i64 (wd e.six2 e.hi2 e.lo2 1), .int .i64 (wd e.six2 e.hi2 e.lo2 2), .int .i64 (wd e.six2 e.hi2 e.lo2 3), .int .i64 (wd e.six2 e.hi2 e.lo2 4), .int .i64 (wd e.six2 e.hi2 e.lo2 5), .int .i64 (wd e.six2 e.hi2 e.lo2 6), .int .i64 (wd e.six2 e.hi2 e.lo2 7), .int .i64 (wd e.six2 e.hi2 e.lo2 8)]
theorem spC_len (e : Rg) : (spC e).length = 18 := rfl
abbrev spOwn (w : World) (base : Nat) (v : Value) (L : List Rg) : Prop := w.ownsRow base 178 18 v L.length (rwC spC L)
/-- The row, at each moment of the sort. -/
def spSo (w : World) (g cap : Nat) (M : List Rg) (wr : World) : Prop := w.grownBy wr (some g) ∧ spOwn wr 0 (.slice (some ⟨g, 0, none⟩) M.length cap) M
theorem spSo.drewN {w wr : World} {g cap : Nat} {M : List Rg} (h : spSo w g cap M wr) (n : Nat) : spSo w g cap M (wr.drewN n) := ⟨⟨h.1.os, h.1.tape, h.1.output, h.1.size, h.1.block⟩, rw_same h.2 fun _ _ => rfl⟩
theorem spSo.drew {w wr : World} {g cap : Nat} {M : List Rg} (h : spSo w g cap M wr) : spSo w g cap M wr.drew := ⟨⟨h.1.os, h.1.tape, h.1.output, h.1.size, h.1.block⟩, rw_same h.2 fun _ _ => rfl⟩
theorem spSo.below {w wr wq : World} {g cap : Nat} {M : List Rg} (h : spSo w g cap M wr) (hb : Below wr.heap.size wr wq) : spSo w g cap M wq := ⟨h.1.andThen (grownB hb _) (fun _ h => .inr h), rw_same h.2 fun k hk => hb.block k (h.2.lt k hk).2⟩
theorem spSo.cells {w wr : World} {g cap : Nat} {M : List Rg} (h : spSo w g cap M wr) {i : Nat} (hi : i < M.length) {x : Rg} (hx : M.getD i noRg = x) : RwCells wr g (i * 18) (spC x) := by
  obtain ⟨g5, off, e1, _, hc⟩ := rw_at' (d := noRg) spC_len h.2 i hi
  injection e1 with e1
  simp only [Addr.mk.injEq, and_true] at e1
  obtain ⟨rfl, rfl⟩ := e1
  rwa [hx, Nat.zero_add] at hc

end Go.Proofs.YtajifionclpphaaGreatDoor
