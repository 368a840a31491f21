/- The plain law of outages: how many moments of a window turns have. -/
import Derived.Test.YtollmagiifkicaaGreatDoorTuC
namespace Go.Hw
/-- How many moments of a window a time has. -/
def inW (f t a b : Int) : Int := max 0 (min t b - max f a)
/-- The moments of a window that the first k turns have. -/
def inWs (l : List Tn) (a b : Int) : Nat → Int
  | 0 => 0
  | k + 1 => inWs l a b k + inW (l.getD k noTn).from_ (l.getD k noTn).to_ a b
theorem inW_le {f t a b : Int} (h : a ≤ b) : 0 ≤ inW f t a b ∧ inW f t a b ≤ b - a := by unfold inW; omega
theorem inWs_le (l : List Tn) {a b : Int} (h : a ≤ b) (hb : b - a ≤ 1000000000) : ∀ k, 0 ≤ inWs l a b k ∧ inWs l a b k ≤ 1000000000 * (k : Int)
  | 0 => by simp [inWs]
  | k + 1 => by
    have h1 := inWs_le l h hb k
    have h2 := inW_le (f := (l.getD k noTn).from_) (t := (l.getD k noTn).to_) h
    simp only [inWs]
    omega
theorem getTn_mem {l : List Tn} {i : Nat} (h : i < l.length) : l.getD i noTn ∈ l := by
  rw [List.getD_eq_getElem?_getD, List.getElem?_eq_getElem h]; exact List.getElem_mem h
theorem getTn_get {l : List Tn} {i : Nat} (h : i < l.length) : l[i]? = some (l.getD i noTn) := by
  rw [List.getD_eq_getElem?_getD, List.getElem?_eq_getElem h]; rfl
/-- What is said of the turn at i. -/
structure TurnAt (l : List Tn) (i : Nat) : Prop where
  low : 0 ≤ (l.getD i noTn).from_
  from_ : (l.getD i noTn).from_ < (l.getD i noTn).to_
  high : (l.getD i noTn).to_ ≤ endT
  before : 0 < i → (l.getD (i - 1) noTn).to_ ≤ (l.getD i noTn).from_ ∧ ((l.getD (i - 1) noTn).to_ = (l.getD i noTn).from_ → (l.getD (i - 1) noTn).who ≠ (l.getD i noTn).who)
theorem turn_at {r : List Rt} {l : List Hl} (hr : RtFine r) (hl : HlFine l) {i : Nat} (hi : i < (turnsP r l).length) : TurnAt (turnsP r l) i := by
  have B := behind_any hr hl l.length l.length (Nat.le_refl _) (Nat.le_refl _) (.inr (.inl rfl))
  have I : TurnInv (turnSt r l l.length).1 (turnsP r l) (timeOf l l.length) := B.inv
  have hm := getTn_mem hi
  have hf := I.from_ _ hm
  have ht : timeOf l l.length < endT := by
    unfold timeOf
    split
    · decide
    · exact (hl.time _ (mem_getD (l := l) (i := l.length - 1) (by omega))).2
  refine ⟨hf.2.2, hf.2.1, ?_, fun h0 => ?_⟩
  · rcases I.open_ with ⟨_, h⟩ | ⟨_, l0, f, e, h⟩
    · have := h _ hm; omega
    · have hm' : ∀ y, y ∈ turnsP r l → y ∈ l0 ∨ y = ⟨(turnSt r l l.length).1, f, endT⟩ := fun y hy => by
        rw [e] at hy
        simpa using hy
      rcases hm' _ hm with h1 | h1
      · have := h _ h1; omega
      · rw [h1]
        exact Int.le_refl _
  · have h1 := getTn_get (l := turnsP r l) (i := i - 1) (by omega)
    have h2 := getTn_get hi
    have h3 := I.apart (i - 1) _ _ h1 (by rw [show i - 1 + 1 = i from by omega]; exact h2)
    exact h3
theorem turns_len {r : List Rt} {l : List Hl} (hr : RtFine r) (hl : HlFine l) : (turnsP r l).length ≤ l.length :=
  (behind_any hr hl l.length l.length (Nat.le_refl _) (Nat.le_refl _) (.inr (.inl rfl))).many
theorem own_len {r : List Rt} {p : Pf} {l : List Rt} (h : ownP r p = some l) : l.length ≤ r.length := by
  unfold ownP at h
  cases hf : (groupsP r).find? (fun g => decide (g.pf = p)) with
  | none => rw [hf] at h; cases h
  | some g =>
    rw [hf] at h
    simp at h
    subst h
    exact (grouped r).long g (List.mem_of_find?_eq_some hf)
theorem RtFine.own {r : List Rt} {p : Pf} {l : List Rt} (hr : RtFine r) (h : ownP r p = some l) : RtFine l := ⟨fun x hx => hr.named x (own_of h x hx), fun x hx => hr.weight x (own_of h x hx)⟩
end Go.Hw
