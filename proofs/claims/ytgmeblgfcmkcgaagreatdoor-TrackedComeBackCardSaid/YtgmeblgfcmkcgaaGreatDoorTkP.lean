/- Row 30: what the tracker answers, in plain words. -/
import Derived.Test.YtgmeblgfcmkcgaaGreatDoorTkV
namespace Go.Proofs.YtgmeblgfcmkcgaaGreatDoor
open Go.RowKit Go.Hw

/-- The two answers of the law. -/
theorem law_plain (f : Fl) (at_ wait : Int) (h0 : 0 ≤ wait) (h1 : wait ≤ 20) (b c : Bool) (K K2 : List Tk)
    (hb : (b, K) = seeL (backF f) false (at_ + wait) [⟨f, at_, false, false⟩]) (hc : (c, K2) = seeL (backF f) false (at_ + wait + 49) K) :
    b = decide (wait < 10) ∧ (c = b ∨ f = backF f) := by
  have hs : ∀ x l a d, sameT (backF f) ⟨f, l, a, d⟩ = x → x = true := by
    intro x l a d e
    rw [← e]
    unfold sameT
    simp [back_back]
  have hsm : ∀ l a d, sameT (backF f) ⟨f, l, a, d⟩ = true := fun l a d => hs _ l a d rfl
  by_cases hw : wait < 10
  · have he : endedT (at_ + wait) ⟨f, at_, false, false⟩ = false := by
      unfold endedT longT
      simp
      omega
    have hb' : seeL (backF f) false (at_ + wait) [⟨f, at_, false, false⟩] = (true, [seenT (backF f) (at_ + wait) false ⟨f, at_, false, false⟩]) := by
      unfold seeL
      simp [he, hsm]
    rw [hb'] at hb
    injection hb with hb hK
    subst hb
    subst hK
    refine ⟨by simp [hw], ?_⟩
    by_cases hf : f = backF f
    · exact .inr hf
    · left
      have hd : (!decide (f = backF f)) = true := by simp [hf]
      have he2 : endedT (at_ + wait + 49) (seenT (backF f) (at_ + wait) false ⟨f, at_, false, false⟩) = false := by
        unfold endedT longT seenT
        simp only [hd, Bool.or_self, Bool.false_or, Bool.false_eq_true, if_false, Bool.not_true, decide_eq_false_iff_not]
        split <;> omega
      have hc' : seeL (backF f) false (at_ + wait + 49) [seenT (backF f) (at_ + wait) false ⟨f, at_, false, false⟩] = (true, [seenT (backF f) (at_ + wait + 49) false (seenT (backF f) (at_ + wait) false ⟨f, at_, false, false⟩)]) := by
        unfold seeL
        have h2 := hsm (at_ + wait) (false || !decide (f = backF f)) (false || false)
        have h3 : sameT (backF f) (seenT (backF f) (at_ + wait) false ⟨f, at_, false, false⟩) = true := h2
        simp [he2, h3]
      rw [hc'] at hc
      injection hc
  · have he : endedT (at_ + wait) ⟨f, at_, false, false⟩ = true := by
      unfold endedT longT
      simp
      omega
    have hb' : seeL (backF f) false (at_ + wait) [⟨f, at_, false, false⟩] = (false, []) := by
      unfold seeL
      simp [he]
    rw [hb'] at hb
    injection hb with hb hK
    subst hb
    subst hK
    refine ⟨by simp [hw], .inl ?_⟩
    have hc' : seeL (backF f) false (at_ + wait + 49) [] = (false, []) := rfl
    rw [hc'] at hc
    injection hc
end Go.Proofs.YtgmeblgfcmkcgaaGreatDoor
