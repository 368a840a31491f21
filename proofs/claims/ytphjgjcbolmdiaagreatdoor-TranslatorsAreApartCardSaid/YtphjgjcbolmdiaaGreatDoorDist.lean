/- The plain law of shortest ways: what a table of distances must satisfy, and what follows from it. No program in sight. -/
import Derived.Test.YtphjgjcbolmdiaaGreatDoorMap
namespace Go.Hw

structure Link where
  a : ByteArray
  b : ByteArray
  m : Nat

/-- Links in one direction, from u, in the order of the list. -/
def stepsAt (x : List Link) (u : ByteArray) : List (ByteArray × Nat) :=
  x.flatMap fun l => (if l.a = u then [(l.b, l.m)] else []) ++ (if l.b = u then [(l.a, l.m)] else [])

theorem mem_steps {x : List Link} {u v : ByteArray} {m : Nat} : (v, m) ∈ stepsAt x u ↔ ∃ l ∈ x, (l.a = u ∧ l.b = v ∧ l.m = m) ∨ (l.b = u ∧ l.a = v ∧ l.m = m) := by
  unfold stepsAt
  rw [List.mem_flatMap]
  constructor
  · rintro ⟨l, hl, h⟩
    refine ⟨l, hl, ?_⟩
    rcases List.mem_append.1 h with h | h
    · left
      by_cases e : l.a = u
      · simp [e] at h; exact ⟨e, h.1.symm, h.2.symm⟩
      · simp [e] at h
    · right
      by_cases e : l.b = u
      · simp [e] at h; exact ⟨e, h.1.symm, h.2.symm⟩
      · simp [e] at h
  · rintro ⟨l, hl, h | h⟩
    · exact ⟨l, hl, List.mem_append_left _ (by simp [h.1, h.2.1, h.2.2])⟩
    · exact ⟨l, hl, List.mem_append_right _ (by simp [h.1, h.2.1, h.2.2])⟩
theorem steps_swap {x : List Link} {u v : ByteArray} {m : Nat} (h : (v, m) ∈ stepsAt x u) : (u, m) ∈ stepsAt x v := by
  obtain ⟨l, hl, h | h⟩ := mem_steps.1 h
  · exact mem_steps.2 ⟨l, hl, .inr ⟨h.2.1, h.1, h.2.2⟩⟩
  · exact mem_steps.2 ⟨l, hl, .inl ⟨h.2.1, h.1, h.2.2⟩⟩

/-- Less: by the first, then by the second number. -/
def lt (p q : Nat × Nat) : Prop := p.1 < q.1 ∨ (p.1 = q.1 ∧ p.2 < q.2)
instance (p q : Nat × Nat) : Decidable (lt p q) := inferInstanceAs (Decidable (_ ∨ _))
def le (p q : Nat × Nat) : Prop := ¬ lt q p
theorem le_refl (p : Nat × Nat) : le p p := by unfold le lt; omega
theorem le_trans {p q r : Nat × Nat} (h : le p q) (k : le q r) : le p r := by unfold le lt at *; omega
theorem le_of_lt {p q : Nat × Nat} (h : lt p q) : le p q := by unfold le lt at *; omega
theorem lt_step (p : Nat × Nat) (m : Nat) : lt p (p.1 + m, p.2 + 1) := by unfold lt; simp; omega
theorem le_step {p q : Nat × Nat} (h : le p q) (m : Nat) : le (p.1 + m, p.2 + 1) (q.1 + m, q.2 + 1) := by unfold le lt at *; simp; omega
theorem le_add {p : Nat × Nat} (m : Nat) {q : Nat × Nat} (h : le p q) : le p (q.1 + m, q.2 + 1) := by unfold le lt at *; simp; omega
theorem not_lt_of_le {p q : Nat × Nat} (h : le p q) : ¬ lt q p := h

/-! ### ways -/
/-- A way of k links from u to v that is s long. -/
inductive Walk (x : List Link) : ByteArray → ByteArray → Nat → Nat → Prop
  | here (u : ByteArray) : Walk x u u 0 0
  | step {u v w : ByteArray} {s k m : Nat} (h : Walk x u v s k) (hm : (w, m) ∈ stepsAt x v) : Walk x u w (s + m) (k + 1)

theorem Walk.trans {x : List Link} {u v w : ByteArray} {s k s' k' : Nat} (h : Walk x u v s k) (h' : Walk x v w s' k') : Walk x u w (s + s') (k + k') := by
  induction h' with
  | here => exact h
  | step _ hm ih =>
    have := ih.step hm
    rwa [Nat.add_assoc, Nat.add_assoc] at this
theorem Walk.one {x : List Link} {u v : ByteArray} {m : Nat} (h : (v, m) ∈ stepsAt x u) : Walk x u v m 1 := by
  have := (Walk.here u).step h
  simpa using this
theorem Walk.swap {x : List Link} {u v : ByteArray} {s k : Nat} (h : Walk x u v s k) : Walk x v u s k := by
  induction h with
  | here => exact .here _
  | step h hm ih =>
    have := (Walk.one (steps_swap hm)).trans ih
    rw [Nat.add_comm, Nat.add_comm 1] at this
    exact this

/-- What a table of distances from f is. -/
structure Table (x : List Link) (f : ByteArray) (out : List (ByteArray × (Nat × Nat))) : Prop where
  start : get out f = some (0, 0)
  shut : ∀ u d v m, get out u = some d → (v, m) ∈ stepsAt x u → ∃ d', get out v = some d' ∧ le d' (d.1 + m, d.2 + 1)
  pred : ∀ u d, get out u = some d → u ≠ f → ∃ v dv m, get out v = some dv ∧ (u, m) ∈ stepsAt x v ∧ d = (dv.1 + m, dv.2 + 1)

variable {x : List Link} {f : ByteArray} {out : List (ByteArray × (Nat × Nat))}
theorem Table.reach (T : Table x f out) {u : ByteArray} {s k : Nat} (h : Walk x f u s k) : ∃ d, get out u = some d ∧ le d (s, k) := by
  induction h with
  | here => exact ⟨_, T.start, le_refl _⟩
  | step h hm ih =>
    obtain ⟨d, hd, hl⟩ := ih
    obtain ⟨d', hd', hl'⟩ := T.shut _ _ _ _ hd hm
    exact ⟨d', hd', le_trans hl' (le_step hl _)⟩
theorem Table.walk (T : Table x f out) : ∀ (n : Nat) (u : ByteArray) (d : Nat × Nat), d.2 ≤ n → get out u = some d → Walk x f u d.1 d.2 := by
  intro n
  induction n with
  | zero =>
    intro u d hn hd
    by_cases hu : u = f
    · subst hu
      rw [T.start] at hd
      injection hd with hd
      subst hd
      exact .here _
    · obtain ⟨v, dv, m, _, _, e⟩ := T.pred u d hd hu
      rw [e] at hn
      simp at hn
  | succ n ih =>
    intro u d hn hd
    by_cases hu : u = f
    · subst hu
      rw [T.start] at hd
      injection hd with hd
      subst hd
      exact .here _
    · obtain ⟨v, dv, m, hv, hm, e⟩ := T.pred u d hd hu
      subst e
      exact (ih v dv (by simp at hn; exact hn) hv).step hm

/-- n is the length of the shortest ways from u to v. -/
def Shortest (x : List Link) (u v : ByteArray) (n : Nat) : Prop := (∃ k, Walk x u v n k) ∧ ∀ s k, Walk x u v s k → n ≤ s
theorem Table.shortest (T : Table x f out) {u : ByteArray} {d : Nat × Nat} (h : get out u = some d) : Shortest x f u d.1 := by
  refine ⟨⟨d.2, T.walk d.2 u d (Nat.le_refl _) h⟩, fun s k hw => ?_⟩
  obtain ⟨d', hd', hl⟩ := T.reach hw
  rw [h] at hd'
  injection hd' with hd'
  subst hd'
  unfold le lt at hl
  omega
theorem Table.none (T : Table x f out) {u : ByteArray} (h : get out u = none) : ∀ s k, ¬ Walk x f u s k := fun s k hw => by
  obtain ⟨d, hd, _⟩ := T.reach hw
  rw [h] at hd
  cases hd
theorem Shortest.swap {u v : ByteArray} {n : Nat} (h : Shortest x u v n) : Shortest x v u n := by
  obtain ⟨⟨k, hk⟩, hl⟩ := h
  exact ⟨⟨k, hk.swap⟩, fun s k' hw => hl s k' hw.swap⟩
theorem Shortest.same {u v : ByteArray} {n m : Nat} (h : Shortest x u v n) (k : Shortest x u v m) : n = m := by
  obtain ⟨⟨k1, h1⟩, l1⟩ := h
  obtain ⟨⟨k2, h2⟩, l2⟩ := k
  have := l1 _ _ h2
  have := l2 _ _ h1
  omega
theorem Shortest.triangle {u v w : ByteArray} {n p q : Nat} (h : Shortest x u v n) (h1 : Shortest x u w p) (h2 : Shortest x w v q) : n ≤ p + q := by
  obtain ⟨⟨k1, w1⟩, _⟩ := h1
  obtain ⟨⟨k2, w2⟩, _⟩ := h2
  exact h.2 _ _ (w1.trans w2)

/-! ### how the table is made -/
def names (x : List Link) (f : ByteArray) : List ByteArray := f :: x.flatMap fun l => [l.a, l.b]
theorem names_step {x : List Link} {f u v : ByteArray} {m : Nat} (h : (v, m) ∈ stepsAt x u) : v ∈ names x f := by
  obtain ⟨l, hl, h | h⟩ := mem_steps.1 h
  · exact List.mem_cons_of_mem _ (List.mem_flatMap.2 ⟨l, hl, by simp [h.2.1]⟩)
  · exact List.mem_cons_of_mem _ (List.mem_flatMap.2 ⟨l, hl, by simp [h.2.1]⟩)
theorem names_length (x : List Link) (f : ByteArray) : (names x f).length = 2 * x.length + 1 := by
  unfold names
  rw [List.length_cons]
  congr 1
  induction x with
  | nil => rfl
  | cons l x ih => simp [List.flatMap_cons, ih]; omega
def isIn (done : List ByteArray) (u : ByteArray) : Bool := done.any fun v => decide (v = u)
theorem isIn_iff {done : List ByteArray} {u : ByteArray} : isIn done u = true ↔ u ∈ done := by
  unfold isIn
  rw [List.any_eq_true]
  constructor
  · rintro ⟨v, hv, h⟩
    have := of_decide_eq_true h
    exact this ▸ hv
  · intro h
    exact ⟨u, h, by simp⟩
theorem isIn_cons (v : ByteArray) (done : List ByteArray) (u : ByteArray) : isIn (v :: done) u = (decide (v = u) || isIn done u) := rfl
/-- The names that are still to come. -/
def undone (x : List Link) (f : ByteArray) (done : List ByteArray) : Nat := ((names x f).filter fun u => !isIn done u).length
theorem filter_less {l : List ByteArray} {done : List ByteArray} {u : ByteArray} (hu : u ∈ l) (hd : u ∉ done) :
    (l.filter fun v => !isIn (u :: done) v).length < (l.filter fun v => !isIn done v).length := by
  have hd' : isIn done u = false := by
    cases h : isIn done u
    · rfl
    · exact absurd (isIn_iff.1 h) hd
  have hsub : ∀ l : List ByteArray, (l.filter fun v => !isIn (u :: done) v).length ≤ (l.filter fun v => !isIn done v).length := by
    intro l
    induction l with
    | nil => simp
    | cons a l ih =>
      simp only [List.filter_cons, isIn_cons] at ih ⊢
      cases h1 : isIn done a
      · by_cases h2 : u = a
        · simp [h2] at ih ⊢; omega
        · simp [h2] at ih ⊢; omega
      · simp at ih ⊢; omega
  induction l with
  | nil => simp at hu
  | cons a l ih =>
    by_cases ha : u = a
    · subst ha
      have := hsub l
      simp only [List.filter_cons, isIn_cons, hd'] at this ⊢
      simp at this ⊢
      omega
    · have hu' : u ∈ l := by
        rcases List.mem_cons.1 hu with h | h
        · exact absurd h ha
        · exact h
      have := ih hu'
      simp only [List.filter_cons, isIn_cons] at this ⊢
      cases h1 : isIn done a
      · simp [ha] at this ⊢; omega
      · simp at this ⊢; omega

/-- The state ahead of a round: 'done' are the names whose links have been looked at. -/
structure Inv (x : List Link) (f : ByteArray) (out : List (ByteArray × (Nat × Nat))) (done : List ByteArray) : Prop where
  start : get out f = some (0, 0)
  known : ∀ u d, get out u = some d → u ∈ names x f
  have_ : ∀ u ∈ done, ∃ d, get out u = some d
  shut : ∀ u d v m, u ∈ done → get out u = some d → (v, m) ∈ stepsAt x u → ∃ d', get out v = some d' ∧ le d' (d.1 + m, d.2 + 1)
  pred : ∀ u d, get out u = some d → u ≠ f → ∃ v dv m, v ∈ done ∧ get out v = some dv ∧ (u, m) ∈ stepsAt x v ∧ d = (dv.1 + m, dv.2 + 1)
  ord : ∀ u v d d', u ∈ done → v ∉ done → get out u = some d → get out v = some d' → le d d'
  small : ∀ u d, get out u = some d → d.2 ≤ done.length
  room : undone x f done + done.length ≤ (names x f).length

theorem Inv.begin (x : List Link) (f : ByteArray) : Inv x f [(f, (0, 0))] [] where
  start := by simp [get_cons]
  known := by
    intro u d h
    rw [get_cons] at h
    by_cases e : f = u
    · subst e; simp [names]
    · simp [e, get_nil] at h
  have_ := by simp
  shut := by simp
  pred := by
    intro u d h hu
    rw [get_cons] at h
    by_cases e : f = u
    · exact absurd e.symm hu
    · simp [e, get_nil] at h
  ord := by simp
  small := by
    intro u d h
    rw [get_cons] at h
    by_cases e : f = u
    · simp [e] at h; subst h; simp
    · simp [e, get_nil] at h
  room := by unfold undone; simpa using List.length_filter_le _ _
theorem Inv.table {done : List ByteArray} (I : Inv x f out done) (h : ∀ u d, get out u = some d → u ∈ done) : Table x f out where
  start := I.start
  shut := fun u d v m hu hm => I.shut u d v m (h u d hu) hu hm
  pred := fun u d hu hne => let ⟨v, dv, m, _, h2, h3, h4⟩ := I.pred u d hu hne; ⟨v, dv, m, h2, h3, h4⟩

/-- The state in a round: of at's links the first ones have been looked at. -/
structure Mid (x : List Link) (f : ByteArray) (out : List (ByteArray × (Nat × Nat))) (done : List ByteArray) (at_ : ByteArray) (da : Nat × Nat) (rest : List (ByteArray × Nat)) : Prop where
  start : get out f = some (0, 0)
  known : ∀ u d, get out u = some d → u ∈ names x f
  have_ : ∀ u ∈ at_ :: done, ∃ d, get out u = some d
  here : get out at_ = some da
  new : at_ ∉ done
  shut : ∀ u d v m, u ∈ done → get out u = some d → (v, m) ∈ stepsAt x u → ∃ d', get out v = some d' ∧ le d' (d.1 + m, d.2 + 1)
  shutA : ∀ v m, (v, m) ∈ stepsAt x at_ → (v, m) ∈ rest ∨ ∃ d', get out v = some d' ∧ le d' (da.1 + m, da.2 + 1)
  pred : ∀ u d, get out u = some d → u ≠ f → ∃ v dv m, v ∈ at_ :: done ∧ get out v = some dv ∧ (u, m) ∈ stepsAt x v ∧ d = (dv.1 + m, dv.2 + 1)
  ord : ∀ u v d d', u ∈ at_ :: done → v ∉ at_ :: done → get out u = some d → get out v = some d' → le d d'
  top : ∀ u d, u ∈ at_ :: done → get out u = some d → le d da
  small : ∀ u d, get out u = some d → d.2 ≤ done.length + 1
  smallA : da.2 ≤ done.length
  room : undone x f (at_ :: done) + (done.length + 1) ≤ (names x f).length
  less : undone x f (at_ :: done) < undone x f done

theorem Inv.mid {done : List ByteArray} (I : Inv x f out done) {at_ : ByteArray} {da : Nat × Nat} (hn : at_ ∉ done) (ha : get out at_ = some da)
    (hmin : ∀ v d, v ∉ done → get out v = some d → le da d) : Mid x f out done at_ da (stepsAt x at_) where
  start := I.start
  known := I.known
  have_ := by
    intro u hu
    rcases List.mem_cons.1 hu with rfl | hu
    · exact ⟨da, ha⟩
    · exact I.have_ u hu
  here := ha
  new := hn
  shut := I.shut
  shutA := fun v m h => .inl h
  pred := fun u d hu hne => let ⟨v, dv, m, h1, h2⟩ := I.pred u d hu hne; ⟨v, dv, m, List.mem_cons_of_mem _ h1, h2⟩
  ord := by
    intro u v d d' hu hv h1 h2
    have hv' : v ∉ done := fun h => hv (List.mem_cons_of_mem _ h)
    rcases List.mem_cons.1 hu with rfl | hu
    · rw [ha] at h1; injection h1 with h1; subst h1; exact hmin v d' hv' h2
    · exact I.ord u v d d' hu hv' h1 h2
  top := by
    intro u d hu h1
    rcases List.mem_cons.1 hu with rfl | hu
    · rw [ha] at h1; injection h1 with h1; subst h1; exact le_refl _
    · exact I.ord u at_ d da hu hn h1 ha
  small := fun u d h => Nat.le_succ_of_le (I.small u d h)
  smallA := I.small _ _ ha
  room := by
    have := filter_less (I.known _ _ ha) hn
    have h2 := I.room
    unfold undone at h2 ⊢
    omega
  less := filter_less (I.known _ _ ha) hn
theorem Mid.over {done : List ByteArray} {at_ : ByteArray} {da : Nat × Nat} (M : Mid x f out done at_ da []) : Inv x f out (at_ :: done) where
  start := M.start
  known := M.known
  have_ := M.have_
  shut := by
    intro u d v m hu h1 h2
    rcases List.mem_cons.1 hu with rfl | hu
    · rw [M.here] at h1; injection h1 with h1; subst h1
      rcases M.shutA v m h2 with h | h
      · simp at h
      · exact h
    · exact M.shut u d v m hu h1 h2
  pred := M.pred
  ord := M.ord
  small := by intro u d h; simpa using M.small u d h
  room := by simpa using M.room
/-- A link that leads to no shorter way. -/
theorem Mid.keep {done : List ByteArray} {at_ : ByteArray} {da : Nat × Nat} {v : ByteArray} {m : Nat} {rest : List (ByteArray × Nat)} (M : Mid x f out done at_ da ((v, m) :: rest))
    {d' : Nat × Nat} (h1 : get out v = some d') (h2 : ¬ lt (da.1 + m, da.2 + 1) d') : Mid x f out done at_ da rest :=
  { M with
    shutA := by
      intro v' m' h
      rcases M.shutA v' m' h with h | h
      · rcases List.mem_cons.1 h with h | h
        · injection h with e1 e2
          subst e1; subst e2
          exact .inr ⟨d', h1, h2⟩
        · exact .inl h
      · exact .inr h }
/-- A link that leads to a shorter way, or to the first one. -/
theorem Mid.put {done : List ByteArray} {at_ : ByteArray} {da : Nat × Nat} {v : ByteArray} {m : Nat} {rest : List (ByteArray × Nat)} (M : Mid x f out done at_ da ((v, m) :: rest))
    (hm : (v, m) ∈ stepsAt x at_) (h2 : ∀ d', get out v = some d' → lt (da.1 + m, da.2 + 1) d') : Mid x f (put out v (da.1 + m, da.2 + 1)) done at_ da rest := by
  have hv : v ∉ at_ :: done := by
    intro hv
    obtain ⟨d, hd⟩ := M.have_ v hv
    have h3 := M.top v d hv hd
    have h4 := h2 d hd
    have h5 := lt_step da m
    unfold le lt at *
    simp at *
    omega
  have hva : v ≠ at_ := fun e => hv (by simp [e])
  have hvd : v ∉ done := fun e => hv (by simp [e])
  have hvf : v ≠ f := by
    rintro rfl
    have := h2 _ M.start
    unfold lt at this
    omega
  have old : ∀ u, u ≠ v → get (Hw.put out v (da.1 + m, da.2 + 1)) u = get out u := fun u hu => by rw [get_put, if_neg hu]
  have new_ : get (Hw.put out v (da.1 + m, da.2 + 1)) v = some (da.1 + m, da.2 + 1) := by rw [get_put, if_pos rfl]
  have ne_of : ∀ u, u ∈ at_ :: done → u ≠ v := fun u hu e => hv (e ▸ hu)
  have fall : ∀ w e, (∃ d', get out w = some d' ∧ le d' e) → ∃ d', get (Hw.put out v (da.1 + m, da.2 + 1)) w = some d' ∧ le d' e := by
    rintro w e ⟨d', h, hl⟩
    by_cases hw : w = v
    · subst hw
      exact ⟨_, new_, le_trans (le_of_lt (h2 d' h)) hl⟩
    · exact ⟨d', by rw [old w hw]; exact h, hl⟩
  refine { start := ?_, known := ?_, have_ := ?_, here := ?_, new := M.new, shut := ?_, shutA := ?_, pred := ?_, ord := ?_, top := ?_, small := ?_, smallA := M.smallA, room := M.room, less := M.less }
  · rw [old f (Ne.symm hvf)]; exact M.start
  · intro u d h
    by_cases hu : u = v
    · subst hu; exact names_step hm
    · rw [old u hu] at h; exact M.known u d h
  · intro u hu
    rw [old u (ne_of u hu)]; exact M.have_ u hu
  · rw [old at_ (Ne.symm hva)]; exact M.here
  · intro u d w k hu h1 h3
    rw [old u (ne_of u (List.mem_cons_of_mem _ hu))] at h1
    exact fall _ _ (M.shut u d w k hu h1 h3)
  · intro w k h
    rcases M.shutA w k h with h | h
    · rcases List.mem_cons.1 h with h | h
      · injection h with e1 e2
        subst e1; subst e2
        exact .inr ⟨_, new_, le_refl _⟩
      · exact .inl h
    · exact .inr (fall _ _ h)
  · intro u d h hne
    by_cases hu : u = v
    · subst hu
      rw [new_] at h
      injection h with h
      exact ⟨at_, da, m, by simp, by rw [old at_ (Ne.symm hva)]; exact M.here, hm, h.symm⟩
    · rw [old u hu] at h
      obtain ⟨w, dw, k, h1, h3, h4, h5⟩ := M.pred u d h hne
      exact ⟨w, dw, k, h1, by rw [old w (ne_of w h1)]; exact h3, h4, h5⟩
  · intro u w d d' hu hw h1 h3
    rw [old u (ne_of u hu)] at h1
    by_cases hwv : w = v
    · subst hwv
      rw [new_] at h3
      injection h3 with h3
      subst h3
      exact le_add m (M.top u d hu h1)
    · rw [old w hwv] at h3
      exact M.ord u w d d' hu hw h1 h3
  · intro u d hu h1
    rw [old u (ne_of u hu)] at h1
    exact M.top u d hu h1
  · intro u d h
    by_cases hu : u = v
    · subst hu
      rw [new_] at h
      injection h with h
      subst h
      have := M.smallA
      simp
      omega
    · rw [old u hu] at h; exact M.small u d h

/-! ### how long it can get -/
theorem bound_of (hs : get out f = some (0, 0)) (hp : ∀ u d, get out u = some d → u ≠ f → ∃ v dv m, get out v = some dv ∧ (u, m) ∈ stepsAt x v ∧ d = (dv.1 + m, dv.2 + 1))
    {M : Nat} (hM : ∀ l ∈ x, l.m ≤ M) : ∀ (n : Nat) (u : ByteArray) (d : Nat × Nat), d.2 ≤ n → get out u = some d → d.1 ≤ d.2 * M := by
  intro n
  induction n with
  | zero =>
    intro u d hn hd
    by_cases hu : u = f
    · subst hu
      rw [hs] at hd; injection hd with hd; subst hd
      simp
    · obtain ⟨v, dv, m, _, _, e⟩ := hp u d hd hu
      rw [e] at hn
      simp at hn
  | succ n ih =>
    intro u d hn hd
    by_cases hu : u = f
    · subst hu
      rw [hs] at hd; injection hd with hd; subst hd
      simp
    · obtain ⟨v, dv, m, hv, hm, e⟩ := hp u d hd hu
      subst e
      have h1 := ih v dv (by simp at hn; exact hn) hv
      obtain ⟨l, hl, h2⟩ := mem_steps.1 hm
      have := hM l hl
      simp only [Nat.add_mul, Nat.one_mul]
      omega
theorem Table.bound (T : Table x f out) {M : Nat} (hM : ∀ l ∈ x, l.m ≤ M) {u : ByteArray} {d : Nat × Nat} (h : get out u = some d) : d.1 ≤ d.2 * M :=
  bound_of T.start T.pred hM d.2 u d (Nat.le_refl _) h
theorem Mid.bound {done : List ByteArray} {at_ : ByteArray} {da : Nat × Nat} {rest : List (ByteArray × Nat)} (I : Mid x f out done at_ da rest) {M : Nat} (hM : ∀ l ∈ x, l.m ≤ M) {u : ByteArray} {d : Nat × Nat} (h : get out u = some d) : d.1 ≤ d.2 * M :=
  bound_of I.start (fun u d h hu => let ⟨v, dv, m, _, h2⟩ := I.pred u d h hu; ⟨v, dv, m, h2⟩) hM d.2 u d (Nat.le_refl _) h
end Go.Hw
