/- A region that draws its order, whose values are known one and all, and whose state is known by the operations that have been. -/
import Derived.Test.YtcmfkheohhfpiaaGreatDoorRgU
namespace Go.Proofs.YtcmfkheohhfpiaaGreatDoor


def updB (l : Nat → Bool) (i : Nat) : Nat → Bool := fun j => if j = i then true else l j
theorem wp_region_exact {P : Program} {ops : Array Oper} {Q : Exit → Act → World → Prop} {id : Nat} (n : Nat) {w : World} (A : (Nat → Value) → Act) (val : Nat → Value) (S : (Nat → Bool) → World → Prop) (f0 : Nat → Value) (K : Nat)
    (hm : P.follows .mixedOrders = true) (hok : regOkF ops n K = true)
    (step : ∀ (i : Nat) (o : Oper), i < n → ops[i]? = some o → ∀ (l : Nat → Bool) (f : Nat → Value) (w : World), l i = false → S l w → (∀ e ∈ o.after, Region.binds .any e = true → l e.on = true ∧ f e.on = val e.on) →
      OpStep P ops Q o (A f) w (fun a' w' => a' = A (upd f i (val i)) ∧ S (updB l i) w'))
    (last : ∀ (o : Oper), ops[n]? = some o → ∀ (l : Nat → Bool) (f : Nat → Value) (w : World), (∀ j, j < n → l j = true ∧ f j = val j) → S l w → Region.wanted o (yielded ops (A f).tmps) = true ∧ o.wp P (A f) w (fun a' w' => Q .normal a' w') Q)
    (h0 : S (fun _ => false) { w with drawn := w.drawn + 1 }) : (Code.region id ops true).wp P Q (A f0) w := by
  unfold regOkF at hok
  simp only [Bool.and_eq_true, beq_iff_eq, List.all_eq_true, List.mem_range] at hok
  obtain ⟨⟨hsz, h2⟩, h3⟩ := hok
  have hback : ∀ (i : Nat) (o : Oper), ops[i]? = some o → ∀ e ∈ o.after, Region.binds .any e = true → e.on < i := by
    intro i o ho e he hb
    have := h2 i (Array.getElem?_eq_some_iff.1 ho).1
    rw [ho] at this
    simp only [List.all_eq_true, Bool.or_eq_true, Bool.not_eq_true', decide_eq_true_eq] at this
    rcases this e (Array.mem_toList_iff.2 he) with h | h
    · rw [hb] at h; cases h
    · exact h
  have hsink : ∀ D : Nat → Prop, (∀ (j : Nat) (o : Oper), ops[j]? = some o → (j = n ∨ D j) → ∀ e ∈ o.after, Region.binds .any e = true → D e.on) → ∀ i, i < n → D i := by
    intro D hD i hi
    have := h3 i hi
    exact reachS_sink D hD K i (by simpa using this)
  refine wp_region_inv2 (fun L a w => (L.getD n false = true ∧ (∀ j, j < n → L.getD j false = true) ∧ Q .normal a w) ∨ (L.getD n false = false ∧ ∃ f, a = A f ∧ (∀ (j : Nat) (o : Oper), ops[j]? = some o → L.getD j false = true → ∀ e ∈ o.after, Region.binds .any e = true → L.getD e.on false = true) ∧ S (fun j => L.getD j false) w ∧ ∀ j, j < n → L.getD j false = true → f j = val j)) hm hback ?_ ?_ ?_
  · intro i o L a w ho hs hf hd hI
    have hin : i < ops.size := (Array.getElem?_eq_some_iff.1 ho).1
    have hil : i < L.size := by omega
    have hf' : L.getD i false = false := by rw [← getD_tf hil]; exact hf
    have hg : (fun j => (L.setIfInBounds i true).getD j false) = updB (fun j => L.getD j false) i := funext fun j => getD_set L i j false hil
    rcases hI with ⟨h1, h2, h3⟩ | ⟨h1, f, rfl, hcl, hS, hV⟩
    · exfalso
      by_cases e : i = n
      · rw [e, h1] at hf'; cases hf'
      · rw [h2 i (by omega)] at hf'; cases hf'
    · by_cases e : i = n
      · subst e
        have hall : ∀ j, j < i → L.getD j false = true := hsink (fun j => L.getD j false = true) (fun j o' ho' hj e he hb => by
          rcases hj with rfl | hj
          · rw [ho] at ho'; injection ho' with ho'; subst ho'; exact hd e he hb
          · exact hcl j o' ho' hj e he hb)
        have hla := last o ho (fun j => L.getD j false) f w (fun j hj => ⟨hall j hj, hV j hj (hall j hj)⟩) hS
        refine OpStep.of hla.1 (Oper.wp_mono (fun a' w' hq => .inl ⟨?_, fun j hj => ?_, hq⟩) hla.2)
        · rw [getD_set _ _ _ _ hil, if_pos rfl]
        · rw [getD_set _ _ _ _ hil, if_neg (by omega)]; exact hall j hj
      · have hla := step i o (by omega) ho (fun j => L.getD j false) f w hf' hS (fun e he hb => ⟨hd e he hb, hV e.on (by have := hback i o ho e he hb; omega) (hd e he hb)⟩)
        refine OpStep.mono (fun a' w' hq => ?_) hla
        obtain ⟨rfl, hS'⟩ := hq
        refine .inr ⟨by rw [getD_set _ _ _ _ hil, if_neg (fun c => e c.symm)]; exact h1, upd f i (val i), rfl, fun j o' ho' hj ed hed hb => ?_, by rw [hg]; exact hS', fun j hj hl => ?_⟩
        · rw [getD_set _ _ _ _ hil] at hj ⊢
          by_cases ee : ed.on = i
          · rw [if_pos ee]
          · rw [if_neg ee]
            by_cases ej : j = i
            · subst ej
              rw [ho] at ho'; injection ho' with ho'; subst ho'
              exact hd ed hed hb
            · rw [if_neg ej] at hj
              exact hcl j o' ho' hj ed hed hb
        by_cases ej : j = i
        · subst ej; rw [upd_same]
        · rw [upd_ne _ _ _ _ ej]
          rw [getD_set _ _ _ _ hil, if_neg ej] at hl
          exact hV j hj hl
  · intro L a w hs hl hI
    rcases hI with ⟨_, _, h⟩ | ⟨h, _⟩
    · exact h
    · rw [hl n (by omega)] at h; cases h
  · have hz : (fun j => (Array.replicate ops.size false).getD j false) = fun _ => false := funext fun j => by unfold Array.getD; split <;> simp
    refine .inr ⟨by simp [Array.getD, hsz], f0, rfl, fun j o' ho' hj => by simp [Array.getD] at hj, by rw [hz]; exact h0, fun j hj hl => ?_⟩
    simp [Array.getD] at hl
end Go.Proofs.YtcmfkheohhfpiaaGreatDoor
