/- The plain law of prefixes' groups. No program in sight. -/
import Derived.Test.YtollmagiifkicaaGreatDoorTuA
namespace Go.Hw

structure Pf where
  six : Bool
  hi : Int
  lo : Int
  bits : Int
deriving DecidableEq
def Rt.pf (x : Rt) : Pf := ⟨x.six, x.hi, x.lo, x.bits⟩
/-- The order of prefixes, as one number. -/
def Pf.key (p : Pf) : Int := (((if p.six then 1 else 0) * 18446744073709551616 + p.hi) * 18446744073709551616 + p.lo) * 1024 + p.bits
structure Pf.Fine (p : Pf) : Prop where
  hi : 0 ≤ p.hi ∧ p.hi < 18446744073709551616
  lo : 0 ≤ p.lo ∧ p.lo < 18446744073709551616
  bits : 0 ≤ p.bits ∧ p.bits ≤ 128
theorem Pf.key_inj {p q : Pf} (hp : p.Fine) (hq : q.Fine) (h : p.key = q.key) : p = q := by
  obtain ⟨⟨h1, h2⟩, ⟨h3, h4⟩, h5, h6⟩ := hp
  obtain ⟨⟨k1, k2⟩, ⟨k3, k4⟩, k5, k6⟩ := hq
  obtain ⟨s, a, b, c⟩ := p
  obtain ⟨s', a', b', c'⟩ := q
  simp only [Pf.key] at *
  have e : s = s' ∧ a = a' ∧ b = b' ∧ c = c' := by
    cases s <;> cases s' <;> simp at h ⊢ <;> omega
  obtain ⟨rfl, rfl, rfl, rfl⟩ := e
  rfl

structure Gp where
  pf : Pf
  list : List Rt
def noGp : Gp := ⟨⟨false, 0, 0, 0⟩, []⟩
def groupStep (g : List Gp) (x : Rt) : List Gp :=
  match g.getLast? with
  | none => [⟨x.pf, [x]⟩]
  | some q => if q.pf = x.pf then g.dropLast ++ [⟨q.pf, q.list ++ [x]⟩] else g ++ [⟨x.pf, [x]⟩]
def groupsP (r : List Rt) : List Gp := r.foldl groupStep []
theorem groups_take (r : List Rt) (k : Nat) (h : k < r.length) : groupsP (r.take (k + 1)) = groupStep (groupsP (r.take k)) (r.getD k noRt) := by
  unfold groupsP
  rw [List.take_succ_eq_append_getElem h, List.foldl_append, List.getD_eq_getElem?_getD, List.getElem?_eq_getElem h]
  rfl
theorem group_new {g : List Gp} {x : Rt} (h : ∀ q, g.getLast? = some q → q.pf ≠ x.pf) : groupStep g x = g ++ [⟨x.pf, [x]⟩] := by
  unfold groupStep
  cases hg : g.getLast? with
  | none => rw [List.getLast?_eq_none_iff.1 hg]; rfl
  | some q => simp only; rw [if_neg (h q hg)]
theorem group_old {g : List Gp} {q : Gp} {x : Rt} (h : q.pf = x.pf) : groupStep (g ++ [q]) x = g ++ [⟨q.pf, q.list ++ [x]⟩] := by
  unfold groupStep
  simp [h]

/-- The routers are in order. -/
def InOrder (r : List Rt) : Prop := ∀ i, i + 1 < r.length → (r.getD i noRt).pf.key ≤ (r.getD (i + 1) noRt).pf.key
/-- What groups are. -/
structure Grouped (r : List Rt) (g : List Gp) : Prop where
  all : ∀ y ∈ r, ∃ q ∈ g, q.pf = y.pf ∧ y ∈ q.list
  own : ∀ q ∈ g, ∀ y ∈ q.list, y ∈ r
  some_ : ∀ q ∈ g, ∃ y ∈ r, y.pf = q.pf
  many : g.length ≤ r.length
  long : ∀ q ∈ g, q.list.length ≤ r.length
theorem grouped_step {r : List Rt} {g : List Gp} (h : Grouped r g) (x : Rt) : Grouped (r ++ [x]) (groupStep g x) := by
  have hnew : (∀ q, g.getLast? = some q → q.pf ≠ x.pf) → Grouped (r ++ [x]) (groupStep g x) := fun hn => by
    rw [group_new hn]
    refine ⟨fun y hy => ?_, fun q hq y hy => ?_, fun q hq => ?_, by have := h.many; simp; omega, fun q hq => ?_⟩
    · rcases List.mem_append.1 hy with hy | hy
      · obtain ⟨q, hq, e⟩ := h.all y hy
        exact ⟨q, List.mem_append_left _ hq, e⟩
      · simp at hy; subst hy
        exact ⟨⟨y.pf, [y]⟩, by simp, rfl, by simp⟩
    · rcases List.mem_append.1 hq with hq | hq
      · exact List.mem_append_left _ (h.own q hq y hy)
      · simp at hq; subst hq
        simp at hy; subst hy; simp
    · rcases List.mem_append.1 hq with hq | hq
      · obtain ⟨y, hy, e⟩ := h.some_ q hq
        exact ⟨y, List.mem_append_left _ hy, e⟩
      · simp at hq; subst hq
        exact ⟨x, by simp, rfl⟩
    · rcases List.mem_append.1 hq with hq | hq
      · have := h.long q hq; simp; omega
      · simp at hq; subst hq; simp
  cases hl : g.getLast? with
  | none => exact hnew (fun q hq => by rw [hl] at hq; cases hq)
  | some q0 =>
    by_cases he : q0.pf = x.pf
    · obtain ⟨g0, rfl⟩ := List.getLast?_eq_some_iff.1 hl
      rw [group_old he]
      refine ⟨fun y hy => ?_, fun q hq y hy => ?_, fun q hq => ?_, by have := h.many; simp at this ⊢; omega, fun q hq => ?_⟩
      · rcases List.mem_append.1 hy with hy | hy
        · obtain ⟨q, hq, e1, e2⟩ := h.all y hy
          rcases List.mem_append.1 hq with hq | hq
          · exact ⟨q, List.mem_append_left _ hq, e1, e2⟩
          · simp at hq; subst hq
            exact ⟨⟨q.pf, q.list ++ [x]⟩, by simp, e1, by simp [e2]⟩
        · simp at hy; subst hy
          exact ⟨⟨q0.pf, q0.list ++ [y]⟩, by simp, he, by simp⟩
      · rcases List.mem_append.1 hq with hq | hq
        · exact List.mem_append_left _ (h.own q (List.mem_append_left _ hq) y hy)
        · simp at hq; subst hq
          rcases List.mem_append.1 hy with hy | hy
          · exact List.mem_append_left _ (h.own q0 (by simp) y hy)
          · simp at hy; subst hy; simp
      · rcases List.mem_append.1 hq with hq | hq
        · obtain ⟨y, hy, e⟩ := h.some_ q (List.mem_append_left _ hq)
          exact ⟨y, List.mem_append_left _ hy, e⟩
        · simp at hq; subst hq
          obtain ⟨y, hy, e⟩ := h.some_ q0 (by simp)
          exact ⟨y, List.mem_append_left _ hy, e⟩
      · rcases List.mem_append.1 hq with hq | hq
        · have := h.long q (List.mem_append_left _ hq); simp; omega
        · simp at hq; subst hq
          have := h.long q0 (by simp); simp; omega
    · exact hnew (fun q hq => by rw [hl] at hq; injection hq with hq; subst hq; exact he)
theorem grouped_take (r : List Rt) : ∀ k, k ≤ r.length → Grouped (r.take k) (groupsP (r.take k))
  | 0, _ => by rw [List.take_zero]; exact ⟨by simp, by simp [groupsP], by simp [groupsP], by simp [groupsP], by simp [groupsP]⟩
  | k + 1, h => by
    rw [groups_take r k (by omega), List.take_succ_eq_append_getElem (by omega), List.getD_eq_getElem?_getD, List.getElem?_eq_getElem (by omega)]
    exact grouped_step (grouped_take r k (by omega)) _
theorem grouped (r : List Rt) : Grouped r (groupsP r) := by
  have := grouped_take r r.length (Nat.le_refl _)
  rwa [List.take_length] at this

/-- In order, each prefix has one group. -/
theorem groups_rise {r : List Rt} (ho : InOrder r) (hf : ∀ x ∈ r, x.pf.Fine) : ∀ k, k ≤ r.length → (groupsP (r.take k)).Pairwise (fun a b => a.pf.key < b.pf.key) ∧ (∀ q, (groupsP (r.take k)).getLast? = some q → 0 < k ∧ q.pf = (r.getD (k - 1) noRt).pf) ∧ (k = 0 ∨ groupsP (r.take k) ≠ [])
  | 0, _ => by rw [List.take_zero]; exact ⟨by simp [groupsP], by simp [groupsP], .inl rfl⟩
  | k + 1, h => by
    obtain ⟨h1, h2, h3⟩ := groups_rise ho hf k (by omega)
    rw [groups_take r k (by omega)]
    have hx : ∀ j, j < r.length → (r.getD j noRt).pf.Fine := fun j hj => hf _ (by rw [List.getD_eq_getElem?_getD, List.getElem?_eq_getElem hj]; exact List.getElem_mem hj)
    generalize hg : groupsP (r.take k) = g at *
    have hall : ∀ q q0, g.getLast? = some q0 → q ∈ g → q.pf.key ≤ q0.pf.key := by
      intro q q0 hl hq
      obtain ⟨g0, rfl⟩ := List.getLast?_eq_some_iff.1 hl
      rcases List.mem_append.1 hq with hq | hq
      · have := (List.pairwise_append.1 h1).2.2 q hq q0 (by simp)
        omega
      · simp at hq; subst hq; exact Int.le_refl _
    cases hl : g.getLast? with
    | none =>
      have := List.getLast?_eq_none_iff.1 hl
      subst this
      rw [group_new (fun q hq => by simp at hq)]
      refine ⟨by simp, fun q hq => ?_, .inr (by simp)⟩
      simp at hq
      subst hq
      exact ⟨by omega, by simp⟩
    | some q0 =>
      obtain ⟨hk0, e0⟩ := h2 q0 hl
      have hord := ho (k - 1) (by omega)
      rw [show k - 1 + 1 = k from by omega, ← e0] at hord
      have hf0 : q0.pf.Fine := e0 ▸ hx (k - 1) (by omega)
      by_cases he : q0.pf = (r.getD k noRt).pf
      · obtain ⟨g0, rfl⟩ := List.getLast?_eq_some_iff.1 hl
        rw [group_old he]
        obtain ⟨p1, p2, p3⟩ := List.pairwise_append.1 h1
        refine ⟨List.pairwise_append.2 ⟨p1, by simp, fun a ha b hb => ?_⟩, fun q hq => ?_, .inr (by simp)⟩
        · simp at hb; subst hb
          exact p3 a ha q0 (by simp)
        · simp at hq; subst hq
          exact ⟨by omega, by simpa using he⟩
      · have hlt : q0.pf.key < (r.getD k noRt).pf.key := by
          have : q0.pf.key ≠ (r.getD k noRt).pf.key := fun e => he (Pf.key_inj hf0 (hx k (by omega)) e)
          omega
        rw [group_new (fun q hq => by rw [hl] at hq; injection hq with hq; subst hq; exact he)]
        refine ⟨List.pairwise_append.2 ⟨h1, by simp, fun a ha b hb => ?_⟩, fun q hq => ?_, .inr (by simp)⟩
        · simp at hb; subst hb
          have := hall a q0 hl ha
          exact Int.lt_of_le_of_lt this hlt
        · simp at hq; subst hq
          exact ⟨by omega, by simp⟩
theorem groups_apart {r : List Rt} (ho : InOrder r) (hf : ∀ x ∈ r, x.pf.Fine) : (groupsP r).Pairwise (fun a b => a.pf ≠ b.pf) := by
  have := (groups_rise ho hf r.length (Nat.le_refl _)).1
  rw [List.take_length] at this
  exact this.imp fun h e => by rw [e] at h; omega
/-- The routers of a prefix. -/
def ownP (r : List Rt) (p : Pf) : Option (List Rt) := ((groupsP r).find? (fun g => decide (g.pf = p))).map (·.list)
theorem own_some {r : List Rt} {y : Rt} (h : y ∈ r) : ∃ l, ownP r y.pf = some l := by
  obtain ⟨q, hq, e, _⟩ := (grouped r).all y h
  unfold ownP
  cases hf : (groupsP r).find? (fun g => decide (g.pf = y.pf)) with
  | none => exact absurd e (by simpa using List.find?_eq_none.1 hf q hq)
  | some g => exact ⟨_, rfl⟩
theorem own_of {r : List Rt} {p : Pf} {l : List Rt} (h : ownP r p = some l) : ∀ y ∈ l, y ∈ r := by
  unfold ownP at h
  cases hf : (groupsP r).find? (fun g => decide (g.pf = p)) with
  | none => rw [hf] at h; cases h
  | some g =>
    rw [hf] at h
    simp at h
    subst h
    exact (grouped r).own g (List.mem_of_find?_eq_some hf)
theorem own_at {r : List Rt} (ho : InOrder r) (hf : ∀ x ∈ r, x.pf.Fine) {g : Gp} (h : g ∈ groupsP r) : ownP r g.pf = some g.list := by
  have hp := groups_apart ho hf
  unfold ownP
  generalize groupsP r = gs at *
  induction gs with
  | nil => simp at h
  | cons a gs ih =>
    rw [List.find?_cons]
    rw [List.pairwise_cons] at hp
    rcases List.mem_cons.1 h with rfl | h
    · simp
    · rw [decide_eq_false (hp.1 g h)]
      exact ih h hp.2
end Go.Hw
