/- A region that draws its order, whose last two operations stand behind all others: the last but one may do anything. -/
import Derived.Test.YtcmfkheohhfpiaaGreatDoorRgD
namespace Go.Proofs.YtcmfkheohhfpiaaGreatDoor

section
variable {P : Program} {ops : Array Oper} {Q : Exit → Act → World → Prop}
theorem wp_region_tail0 {id n : Nat} {w : World} (A : (Nat → Value) → Act) (V : Nat → World → Value → Prop) (G : Nat → World → Prop) (Gr : World → World → Prop) (f0 : Nat → Value) (R : Act → World → Prop)
    (hm : P.follows .mixedOrders = true) (hsz : ops.size = n + 2)
    (hback : ∀ (i : Nat) (o : Oper), ops[i]? = some o → ∀ e ∈ o.after, Region.binds .any e = true → e.on < i)
    (hsink : ∀ D : Nat → Prop, (∀ (j : Nat) (o : Oper), ops[j]? = some o → (j = n ∨ D j) → ∀ e ∈ o.after, Region.binds .any e = true → D e.on) → ∀ i, i < n → D i)
    (hlast : ∀ (o : Oper), ops[n + 1]? = some o → ∃ e ∈ o.after, Region.binds .any e = true ∧ e.on = n)
    (stable : ∀ i w w' v, V i w v → Gr w w' → V i w' v)
    (step : ∀ (i : Nat) (o : Oper), i < n → ops[i]? = some o → ∀ (f : Nat → Value) (w : World) (k : Nat), k ≤ n → G k w → (∀ e ∈ o.after, Region.binds .any e = true → V e.on w (f e.on)) →
      Region.wanted o (yielded ops (A f).tmps) = true ∧ o.wp P (A f) w (fun a' w' => ∃ v, a' = A (upd f i v) ∧ V i w' v ∧ G (k + 1) w' ∧ Gr w w') Q)
    (last : ∀ (o : Oper), ops[n]? = some o → ∀ (f : Nat → Value) (w : World) (k : Nat), k ≤ n → G k w → (∀ j, j < n → V j w (f j)) → Region.wanted o (yielded ops (A f).tmps) = true ∧ o.wp P (A f) w R Q)
    (last2 : ∀ (o : Oper), ops[n + 1]? = some o → ∀ (a : Act) (w : World), R a w → Region.wanted o (yielded ops a.tmps) = true ∧ o.wp P a w (fun a' w' => Q .normal a' w') Q)
    (h0 : G 0 { w with drawn := w.drawn + 1 }) : (Code.region id ops true).wp P Q (A f0) w := by
  refine wp_region_inv (fun listed a w => (listed.getD n false = true ∧ listed.getD (n + 1) false = true ∧ (∀ j, j < n → listed.getD j false = true) ∧ Q .normal a w) ∨
    (listed.getD n false = true ∧ listed.getD (n + 1) false = false ∧ (∀ j, j < n → listed.getD j false = true) ∧ R a w) ∨
    (listed.getD n false = false ∧ listed.getD (n + 1) false = false ∧ ∃ f k, a = A f ∧ k + listed.toList.count false = n + 2 ∧ (∀ (j : Nat) (o : Oper), ops[j]? = some o → listed.getD j false = true → ∀ e ∈ o.after, Region.binds .any e = true → listed.getD e.on false = true) ∧ G k w ∧ ∀ j, j < n → listed.getD j false = true → V j w (f j))) hm hback ?_ ?_ ?_
  · intro i o listed a w ho hs hf hd hI
    have hin : i < ops.size := (Array.getElem?_eq_some_iff.1 ho).1
    have hil : i < listed.size := by omega
    have hf' : listed.getD i false = false := by rw [← getD_tf hil]; exact hf
    have hcnt := count_set_false listed.toList i (by rw [getD_list true hil, hf])
    rcases hI with ⟨h1, h2, h3, h4⟩ | ⟨h1, h2, h3, h4⟩ | ⟨h1, h2, f, k, rfl, hk, hcl, hG, hV⟩
    · exfalso
      by_cases e : i = n
      · rw [e, h1] at hf'; cases hf'
      · by_cases e2 : i = n + 1
        · rw [e2, h2] at hf'; cases hf'
        · rw [h3 i (by omega)] at hf'; cases hf'
    · have e : i = n + 1 := by
        by_cases e : i = n
        · rw [e, h1] at hf'; cases hf'
        · by_cases e2 : i < n
          · rw [h3 i e2] at hf'; cases hf'
          · omega
      subst e
      have hla := last2 o ho a w h4
      refine ⟨hla.1, Oper.wp_mono (fun a' w' hq => .inl ⟨?_, ?_, fun j hj => ?_, hq⟩) hla.2⟩
      · rw [getD_set _ _ _ _ hil, if_neg (by omega)]; exact h1
      · rw [getD_set _ _ _ _ hil, if_pos rfl]
      · rw [getD_set _ _ _ _ hil, if_neg (by omega)]; exact h3 j hj
    · by_cases e : i = n
      · subst e
        have hall : ∀ j, j < i → listed.getD j false = true := hsink (fun j => listed.getD j false = true) (fun j o' ho' hj e he hb => by
          rcases hj with rfl | hj
          · rw [ho] at ho'; injection ho' with ho'; subst ho'; exact hd e he hb
          · exact hcl j o' ho' hj e he hb)
        have hcn : 2 ≤ listed.toList.count false := by
          have h2' : (listed.toList.set i true)[i + 1]? = some false := by
            rw [List.getElem?_set_ne (by omega)]
            rw [getD_list false (by omega), h2]
          have := count_set_false _ _ h2'
          omega
        have hla := last o ho f w k (by omega) hG (fun j hj => hV j hj (hall j hj))
        refine ⟨hla.1, Oper.wp_mono (fun a' w' hq => .inr (.inl ⟨?_, ?_, fun j hj => ?_, hq⟩)) hla.2⟩
        · rw [getD_set _ _ _ _ hil, if_pos rfl]
        · rw [getD_set _ _ _ _ hil, if_neg (by omega)]; exact h2
        · rw [getD_set _ _ _ _ hil, if_neg (by omega)]; exact hall j hj
      · by_cases e2 : i = n + 1
        · exfalso
          subst e2
          obtain ⟨ed, he, hb, hon⟩ := hlast o ho
          have := hd ed he hb
          rw [hon, h1] at this
          cases this
        · have hcn : 2 ≤ (listed.toList.set i true).count false := by
            have ha : (listed.toList.set i true)[n]? = some false := by
              rw [List.getElem?_set_ne (by omega), getD_list false (by omega), h1]
            have h3 := count_set_false _ _ ha
            have hb : ((listed.toList.set i true).set n true)[n + 1]? = some false := by
              rw [List.getElem?_set_ne (by omega), List.getElem?_set_ne (by omega), getD_list false (by omega), h2]
            have h4 := count_set_false _ _ hb
            omega
          have hla := step i o (by omega) ho f w k (by omega) hG (fun e he hb => hV e.on (by have := hback i o ho e he hb; omega) (hd e he hb))
          refine ⟨hla.1, Oper.wp_mono (fun a' w' hq => ?_) hla.2⟩
          obtain ⟨v, rfl, hv, hG', hgr⟩ := hq
          refine .inr (.inr ⟨by rw [getD_set _ _ _ _ hil, if_neg (fun c => e c.symm)]; exact h1, by rw [getD_set _ _ _ _ hil, if_neg (fun c => e2 c.symm)]; exact h2, upd f i v, k + 1, rfl, by simp; omega, fun j o' ho' hj ed hed hb => ?_, hG', fun j hj hl => ?_⟩)
          · rw [getD_set _ _ _ _ hil] at hj ⊢
            by_cases ee : ed.on = i
            · rw [if_pos ee]
            · rw [if_neg ee]
              by_cases ej : j = i
              · subst ej
                rw [ho] at ho'; injection ho' with ho'; subst ho'
                exact hd ed hed hb
              · rw [if_neg ej] at hj
                exact hcl j o' ho' hj ed hed hb
          · by_cases ej : j = i
            · subst ej; rw [upd_same]; exact hv
            · rw [upd_ne _ _ _ _ ej]
              rw [getD_set _ _ _ _ hil, if_neg ej] at hl
              exact stable _ _ _ _ (hV j hj hl) hgr
  · intro listed a w hs hl hI
    rcases hI with ⟨_, _, _, h⟩ | ⟨_, h, _⟩ | ⟨h, _⟩
    · exact h
    · rw [hl (n + 1) (by omega)] at h; cases h
    · rw [hl n (by omega)] at h; cases h
  · refine .inr (.inr ⟨by simp [Array.getD, hsz], by simp [Array.getD, hsz], f0, 0, rfl, by simp [hsz], fun j o' ho' hj => by simp [Array.getD] at hj, h0, fun j hj hl => ?_⟩)
    simp [Array.getD] at hl
end
def regTail (ops : Array Oper) (n : Nat) : Bool :=
  ops.size == n + 2 && (List.range ops.size).all (fun i => match ops[i]? with | some o => o.after.toList.all (fun e => !Region.binds .any e || decide (e.on < i)) | none => true) &&
    (List.range n).all (fun i => (reachS ops n 4).contains i) && (afterOf ops (n + 1)).contains n
theorem wp_region_tail {P : Program} {ops : Array Oper} {Q : Exit → Act → World → Prop} {id : Nat} (n : Nat) {w : World} (A : (Nat → Value) → Act) (V : Nat → World → Value → Prop) (G : Nat → World → Prop) (Gr : World → World → Prop) (f0 : Nat → Value) (R : Act → World → Prop)
    (hm : P.follows .mixedOrders = true) (hok : regTail ops n = true)
    (stable : ∀ i w w' v, V i w v → Gr w w' → V i w' v)
    (step : ∀ (i : Nat) (o : Oper), i < n → ops[i]? = some o → ∀ (f : Nat → Value) (w : World) (k : Nat), k ≤ n → G k w → (∀ e ∈ o.after, Region.binds .any e = true → V e.on w (f e.on)) →
      Region.wanted o (yielded ops (A f).tmps) = true ∧ o.wp P (A f) w (fun a' w' => ∃ v, a' = A (upd f i v) ∧ V i w' v ∧ G (k + 1) w' ∧ Gr w w') Q)
    (last : ∀ (o : Oper), ops[n]? = some o → ∀ (f : Nat → Value) (w : World) (k : Nat), k ≤ n → G k w → (∀ j, j < n → V j w (f j)) → Region.wanted o (yielded ops (A f).tmps) = true ∧ o.wp P (A f) w R Q)
    (last2 : ∀ (o : Oper), ops[n + 1]? = some o → ∀ (a : Act) (w : World), R a w → Region.wanted o (yielded ops a.tmps) = true ∧ o.wp P a w (fun a' w' => Q .normal a' w') Q)
    (h0 : G 0 { w with drawn := w.drawn + 1 }) : (Code.region id ops true).wp P Q (A f0) w := by
  unfold regTail at hok
  simp only [Bool.and_eq_true, beq_iff_eq, List.all_eq_true, List.mem_range] at hok
  obtain ⟨⟨⟨h1, h2⟩, h3⟩, h4⟩ := hok
  refine wp_region_tail0 A V G Gr f0 R hm h1 ?_ ?_ ?_ stable step last last2 h0
  · intro i o ho e he hb
    have := h2 i (Array.getElem?_eq_some_iff.1 ho).1
    rw [ho] at this
    simp only [List.all_eq_true, Bool.or_eq_true, Bool.not_eq_true', decide_eq_true_eq] at this
    rcases this e (Array.mem_toList_iff.2 he) with h | h
    · rw [hb] at h; cases h
    · exact h
  · intro D hD i hi
    have := h3 i hi
    exact reachS_sink D hD 4 i (by simpa using this)
  · intro o ho
    obtain ⟨o', ho', e, he, hb, hon⟩ := afterOf_mem (by simpa using h4)
    rw [ho] at ho'
    injection ho' with ho'
    subst ho'
    exact ⟨e, he, hb, hon⟩
end Go.Proofs.YtcmfkheohhfpiaaGreatDoor
