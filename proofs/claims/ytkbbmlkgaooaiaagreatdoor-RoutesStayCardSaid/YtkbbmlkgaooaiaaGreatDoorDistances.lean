/- The plain law of shortest ways: what a table of distances must satisfy, and what follows from it. No program in sight. A map whose elements are slices of the call's own, one row for each key: plain words and laws, over any program. route.stepsOf: the links of each relay, in one direction. route.far.less. route.distances. -/
import Derived.Test.YtkbbmlkgaooaiaaGreatDoorMap
import Derived.Deep.AppendLies
import Derived.Test.YtkbbmlkgaooaiaaGreatDoorFlt
import Derived.Deep.RegionHeld3
import Derived.Deep.LoopGhost
namespace Go.Hw

structure Link where
  a : ByteArray
  b : ByteArray
  m : Nat

/-- Links in one direction, from u, in the order of the list. -/
def stepsAt (x : List Link) (u : ByteArray) : List (ByteArray × Nat) :=
  x.flatMap fun l => (if l.a = u then [(l.b, l.m)] else []) ++ (if l.b = u then [(l.a, l.m)] else [])

theorem mem_steps {x : List Link} {u v : ByteArray} {m : Nat} : (v, m) ∈ stepsAt x u ↔ ∃ l ∈ x, (l.a = u ∧ l.b = v ∧ l.m = m) ∨ (l.b = u ∧ l.a = v ∧ l.m = m) := by
  unfold stepsAt
  rw [List.mem_flatMap]
  constructor
  · rintro ⟨l, hl, h⟩
    refine ⟨l, hl, ?_⟩
    rcases List.mem_append.1 h with h | h
    · left
      by_cases e : l.a = u
      · simp [e] at h; exact ⟨e, h.1.symm, h.2.symm⟩
      · simp [e] at h
    · right
      by_cases e : l.b = u
      · simp [e] at h; exact ⟨e, h.1.symm, h.2.symm⟩
      · simp [e] at h
  · rintro ⟨l, hl, h | h⟩
    · exact ⟨l, hl, List.mem_append_left _ (by simp [h.1, h.2.1, h.2.2])⟩
    · exact ⟨l, hl, List.mem_append_right _ (by simp [h.1, h.2.1, h.2.2])⟩
theorem steps_swap {x : List Link} {u v : ByteArray} {m : Nat} (h : (v, m) ∈ stepsAt x u) : (u, m) ∈ stepsAt x v := by
  obtain ⟨l, hl, h | h⟩ := mem_steps.1 h
  · exact mem_steps.2 ⟨l, hl, .inr ⟨h.2.1, h.1, h.2.2⟩⟩
  · exact mem_steps.2 ⟨l, hl, .inl ⟨h.2.1, h.1, h.2.2⟩⟩

/-- Less: by the first, then by the second number. -/
def lt (p q : Nat × Nat) : Prop := p.1 < q.1 ∨ (p.1 = q.1 ∧ p.2 < q.2)
instance (p q : Nat × Nat) : Decidable (lt p q) := inferInstanceAs (Decidable (_ ∨ _))
def le (p q : Nat × Nat) : Prop := ¬ lt q p
theorem le_refl (p : Nat × Nat) : le p p := by unfold le lt; omega
theorem le_trans {p q r : Nat × Nat} (h : le p q) (k : le q r) : le p r := by unfold le lt at *; omega
theorem le_of_lt {p q : Nat × Nat} (h : lt p q) : le p q := by unfold le lt at *; omega
theorem lt_step (p : Nat × Nat) (m : Nat) : lt p (p.1 + m, p.2 + 1) := by unfold lt; simp; omega
theorem le_step {p q : Nat × Nat} (h : le p q) (m : Nat) : le (p.1 + m, p.2 + 1) (q.1 + m, q.2 + 1) := by unfold le lt at *; simp; omega
theorem le_add {p : Nat × Nat} (m : Nat) {q : Nat × Nat} (h : le p q) : le p (q.1 + m, q.2 + 1) := by unfold le lt at *; simp; omega
theorem not_lt_of_le {p q : Nat × Nat} (h : le p q) : ¬ lt q p := h

/-! ### ways -/
/-- A way of k links from u to v that is s long. -/
inductive Walk (x : List Link) : ByteArray → ByteArray → Nat → Nat → Prop
  | here (u : ByteArray) : Walk x u u 0 0
  | step {u v w : ByteArray} {s k m : Nat} (h : Walk x u v s k) (hm : (w, m) ∈ stepsAt x v) : Walk x u w (s + m) (k + 1)

theorem Walk.trans {x : List Link} {u v w : ByteArray} {s k s' k' : Nat} (h : Walk x u v s k) (h' : Walk x v w s' k') : Walk x u w (s + s') (k + k') := by
  induction h' with
  | here => exact h
  | step _ hm ih =>
    have := ih.step hm
    rwa [Nat.add_assoc, Nat.add_assoc] at this
theorem Walk.one {x : List Link} {u v : ByteArray} {m : Nat} (h : (v, m) ∈ stepsAt x u) : Walk x u v m 1 := by
  have := (Walk.here u).step h
  simpa using this
theorem Walk.swap {x : List Link} {u v : ByteArray} {s k : Nat} (h : Walk x u v s k) : Walk x v u s k := by
  induction h with
  | here => exact .here _
  | step h hm ih =>
    have := (Walk.one (steps_swap hm)).trans ih
    rw [Nat.add_comm, Nat.add_comm 1] at this
    exact this

/-- What a table of distances from f is. -/
structure Table (x : List Link) (f : ByteArray) (out : List (ByteArray × (Nat × Nat))) : Prop where
  start : get out f = some (0, 0)
  shut : ∀ u d v m, get out u = some d → (v, m) ∈ stepsAt x u → ∃ d', get out v = some d' ∧ le d' (d.1 + m, d.2 + 1)
  pred : ∀ u d, get out u = some d → u ≠ f → ∃ v dv m, get out v = some dv ∧ (u, m) ∈ stepsAt x v ∧ d = (dv.1 + m, dv.2 + 1)

variable {x : List Link} {f : ByteArray} {out : List (ByteArray × (Nat × Nat))}
theorem Table.reach (T : Table x f out) {u : ByteArray} {s k : Nat} (h : Walk x f u s k) : ∃ d, get out u = some d ∧ le d (s, k) := by
  induction h with
  | here => exact ⟨_, T.start, le_refl _⟩
  | step h hm ih =>
    obtain ⟨d, hd, hl⟩ := ih
    obtain ⟨d', hd', hl'⟩ := T.shut _ _ _ _ hd hm
    exact ⟨d', hd', le_trans hl' (le_step hl _)⟩
theorem Table.walk (T : Table x f out) : ∀ (n : Nat) (u : ByteArray) (d : Nat × Nat), d.2 ≤ n → get out u = some d → Walk x f u d.1 d.2 := by
  intro n
  induction n with
  | zero =>
    intro u d hn hd
    by_cases hu : u = f
    · subst hu
      rw [T.start] at hd
      injection hd with hd
      subst hd
      exact .here _
    · obtain ⟨v, dv, m, _, _, e⟩ := T.pred u d hd hu
      rw [e] at hn
      simp at hn
  | succ n ih =>
    intro u d hn hd
    by_cases hu : u = f
    · subst hu
      rw [T.start] at hd
      injection hd with hd
      subst hd
      exact .here _
    · obtain ⟨v, dv, m, hv, hm, e⟩ := T.pred u d hd hu
      subst e
      exact (ih v dv (by simp at hn; exact hn) hv).step hm

/-- n is the length of the shortest ways from u to v. -/
def Shortest (x : List Link) (u v : ByteArray) (n : Nat) : Prop := (∃ k, Walk x u v n k) ∧ ∀ s k, Walk x u v s k → n ≤ s
theorem Table.shortest (T : Table x f out) {u : ByteArray} {d : Nat × Nat} (h : get out u = some d) : Shortest x f u d.1 := by
  refine ⟨⟨d.2, T.walk d.2 u d (Nat.le_refl _) h⟩, fun s k hw => ?_⟩
  obtain ⟨d', hd', hl⟩ := T.reach hw
  rw [h] at hd'
  injection hd' with hd'
  subst hd'
  unfold le lt at hl
  omega
theorem Table.none (T : Table x f out) {u : ByteArray} (h : get out u = none) : ∀ s k, ¬ Walk x f u s k := fun s k hw => by
  obtain ⟨d, hd, _⟩ := T.reach hw
  rw [h] at hd
  cases hd
theorem Shortest.swap {u v : ByteArray} {n : Nat} (h : Shortest x u v n) : Shortest x v u n := by
  obtain ⟨⟨k, hk⟩, hl⟩ := h
  exact ⟨⟨k, hk.swap⟩, fun s k' hw => hl s k' hw.swap⟩
theorem Shortest.same {u v : ByteArray} {n m : Nat} (h : Shortest x u v n) (k : Shortest x u v m) : n = m := by
  obtain ⟨⟨k1, h1⟩, l1⟩ := h
  obtain ⟨⟨k2, h2⟩, l2⟩ := k
  have := l1 _ _ h2
  have := l2 _ _ h1
  omega
theorem Shortest.triangle {u v w : ByteArray} {n p q : Nat} (h : Shortest x u v n) (h1 : Shortest x u w p) (h2 : Shortest x w v q) : n ≤ p + q := by
  obtain ⟨⟨k1, w1⟩, _⟩ := h1
  obtain ⟨⟨k2, w2⟩, _⟩ := h2
  exact h.2 _ _ (w1.trans w2)

/-! ### how the table is made -/
def names (x : List Link) (f : ByteArray) : List ByteArray := f :: x.flatMap fun l => [l.a, l.b]
theorem names_step {x : List Link} {f u v : ByteArray} {m : Nat} (h : (v, m) ∈ stepsAt x u) : v ∈ names x f := by
  obtain ⟨l, hl, h | h⟩ := mem_steps.1 h
  · exact List.mem_cons_of_mem _ (List.mem_flatMap.2 ⟨l, hl, by simp [h.2.1]⟩)
  · exact List.mem_cons_of_mem _ (List.mem_flatMap.2 ⟨l, hl, by simp [h.2.1]⟩)
theorem names_length (x : List Link) (f : ByteArray) : (names x f).length = 2 * x.length + 1 := by
  unfold names
  rw [List.length_cons]
  congr 1
  induction x with
  | nil => rfl
  | cons l x ih => simp [List.flatMap_cons, ih]; omega
def isIn (done : List ByteArray) (u : ByteArray) : Bool := done.any fun v => decide (v = u)
theorem isIn_iff {done : List ByteArray} {u : ByteArray} : isIn done u = true ↔ u ∈ done := by
  unfold isIn
  rw [List.any_eq_true]
  constructor
  · rintro ⟨v, hv, h⟩
    have := of_decide_eq_true h
    exact this ▸ hv
  · intro h
    exact ⟨u, h, by simp⟩
theorem isIn_cons (v : ByteArray) (done : List ByteArray) (u : ByteArray) : isIn (v :: done) u = (decide (v = u) || isIn done u) := rfl
/-- The names that are still to come. -/
def undone (x : List Link) (f : ByteArray) (done : List ByteArray) : Nat := ((names x f).filter fun u => !isIn done u).length
theorem filter_less {l : List ByteArray} {done : List ByteArray} {u : ByteArray} (hu : u ∈ l) (hd : u ∉ done) :
    (l.filter fun v => !isIn (u :: done) v).length < (l.filter fun v => !isIn done v).length := by
  have hd' : isIn done u = false := by
    cases h : isIn done u
    · rfl
    · exact absurd (isIn_iff.1 h) hd
  have hsub : ∀ l : List ByteArray, (l.filter fun v => !isIn (u :: done) v).length ≤ (l.filter fun v => !isIn done v).length := by
    intro l
    induction l with
    | nil => simp
    | cons a l ih =>
      simp only [List.filter_cons, isIn_cons] at ih ⊢
      cases h1 : isIn done a
      · by_cases h2 : u = a
        · simp [h2] at ih ⊢; omega
        · simp [h2] at ih ⊢; omega
      · simp at ih ⊢; omega
  induction l with
  | nil => simp at hu
  | cons a l ih =>
    by_cases ha : u = a
    · subst ha
      have := hsub l
      simp only [List.filter_cons, isIn_cons, hd'] at this ⊢
      simp at this ⊢
      omega
    · have hu' : u ∈ l := by
        rcases List.mem_cons.1 hu with h | h
        · exact absurd h ha
        · exact h
      have := ih hu'
      simp only [List.filter_cons, isIn_cons] at this ⊢
      cases h1 : isIn done a
      · simp [ha] at this ⊢; omega
      · simp at this ⊢; omega

/-- The state ahead of a round: 'done' are the names whose links have been looked at. -/
structure Inv (x : List Link) (f : ByteArray) (out : List (ByteArray × (Nat × Nat))) (done : List ByteArray) : Prop where
  start : get out f = some (0, 0)
  known : ∀ u d, get out u = some d → u ∈ names x f
  have_ : ∀ u ∈ done, ∃ d, get out u = some d
  shut : ∀ u d v m, u ∈ done → get out u = some d → (v, m) ∈ stepsAt x u → ∃ d', get out v = some d' ∧ le d' (d.1 + m, d.2 + 1)
  pred : ∀ u d, get out u = some d → u ≠ f → ∃ v dv m, v ∈ done ∧ get out v = some dv ∧ (u, m) ∈ stepsAt x v ∧ d = (dv.1 + m, dv.2 + 1)
  ord : ∀ u v d d', u ∈ done → v ∉ done → get out u = some d → get out v = some d' → le d d'
  small : ∀ u d, get out u = some d → d.2 ≤ done.length
  room : undone x f done + done.length ≤ (names x f).length

theorem Inv.begin (x : List Link) (f : ByteArray) : Inv x f [(f, (0, 0))] [] where
  start := by simp [get_cons]
  known := by
    intro u d h
    rw [get_cons] at h
    by_cases e : f = u
    · subst e; simp [names]
    · simp [e, get_nil] at h
  have_ := by simp
  shut := by simp
  pred := by
    intro u d h hu
    rw [get_cons] at h
    by_cases e : f = u
    · exact absurd e.symm hu
    · simp [e, get_nil] at h
  ord := by simp
  small := by
    intro u d h
    rw [get_cons] at h
    by_cases e : f = u
    · simp [e] at h; subst h; simp
    · simp [e, get_nil] at h
  room := by unfold undone; simpa using List.length_filter_le _ _
theorem Inv.table {done : List ByteArray} (I : Inv x f out done) (h : ∀ u d, get out u = some d → u ∈ done) : Table x f out where
  start := I.start
  shut := fun u d v m hu hm => I.shut u d v m (h u d hu) hu hm
  pred := fun u d hu hne => let ⟨v, dv, m, _, h2, h3, h4⟩ := I.pred u d hu hne; ⟨v, dv, m, h2, h3, h4⟩

/-- The state in a round: of at's links the first ones have been looked at. -/
structure Mid (x : List Link) (f : ByteArray) (out : List (ByteArray × (Nat × Nat))) (done : List ByteArray) (at_ : ByteArray) (da : Nat × Nat) (rest : List (ByteArray × Nat)) : Prop where
  start : get out f = some (0, 0)
  known : ∀ u d, get out u = some d → u ∈ names x f
  have_ : ∀ u ∈ at_ :: done, ∃ d, get out u = some d
  here : get out at_ = some da
  new : at_ ∉ done
  shut : ∀ u d v m, u ∈ done → get out u = some d → (v, m) ∈ stepsAt x u → ∃ d', get out v = some d' ∧ le d' (d.1 + m, d.2 + 1)
  shutA : ∀ v m, (v, m) ∈ stepsAt x at_ → (v, m) ∈ rest ∨ ∃ d', get out v = some d' ∧ le d' (da.1 + m, da.2 + 1)
  pred : ∀ u d, get out u = some d → u ≠ f → ∃ v dv m, v ∈ at_ :: done ∧ get out v = some dv ∧ (u, m) ∈ stepsAt x v ∧ d = (dv.1 + m, dv.2 + 1)
  ord : ∀ u v d d', u ∈ at_ :: done → v ∉ at_ :: done → get out u = some d → get out v = some d' → le d d'
  top : ∀ u d, u ∈ at_ :: done → get out u = some d → le d da
  small : ∀ u d, get out u = some d → d.2 ≤ done.length + 1
  smallA : da.2 ≤ done.length
  room : undone x f (at_ :: done) + (done.length + 1) ≤ (names x f).length
  less : undone x f (at_ :: done) < undone x f done

theorem Inv.mid {done : List ByteArray} (I : Inv x f out done) {at_ : ByteArray} {da : Nat × Nat} (hn : at_ ∉ done) (ha : get out at_ = some da)
    (hmin : ∀ v d, v ∉ done → get out v = some d → le da d) : Mid x f out done at_ da (stepsAt x at_) where
  start := I.start
  known := I.known
  have_ := by
    intro u hu
    rcases List.mem_cons.1 hu with rfl | hu
    · exact ⟨da, ha⟩
    · exact I.have_ u hu
  here := ha
  new := hn
  shut := I.shut
  shutA := fun v m h => .inl h
  pred := fun u d hu hne => let ⟨v, dv, m, h1, h2⟩ := I.pred u d hu hne; ⟨v, dv, m, List.mem_cons_of_mem _ h1, h2⟩
  ord := by
    intro u v d d' hu hv h1 h2
    have hv' : v ∉ done := fun h => hv (List.mem_cons_of_mem _ h)
    rcases List.mem_cons.1 hu with rfl | hu
    · rw [ha] at h1; injection h1 with h1; subst h1; exact hmin v d' hv' h2
    · exact I.ord u v d d' hu hv' h1 h2
  top := by
    intro u d hu h1
    rcases List.mem_cons.1 hu with rfl | hu
    · rw [ha] at h1; injection h1 with h1; subst h1; exact le_refl _
    · exact I.ord u at_ d da hu hn h1 ha
  small := fun u d h => Nat.le_succ_of_le (I.small u d h)
  smallA := I.small _ _ ha
  room := by
    have := filter_less (I.known _ _ ha) hn
    have h2 := I.room
    unfold undone at h2 ⊢
    omega
  less := filter_less (I.known _ _ ha) hn
theorem Mid.over {done : List ByteArray} {at_ : ByteArray} {da : Nat × Nat} (M : Mid x f out done at_ da []) : Inv x f out (at_ :: done) where
  start := M.start
  known := M.known
  have_ := M.have_
  shut := by
    intro u d v m hu h1 h2
    rcases List.mem_cons.1 hu with rfl | hu
    · rw [M.here] at h1; injection h1 with h1; subst h1
      rcases M.shutA v m h2 with h | h
      · simp at h
      · exact h
    · exact M.shut u d v m hu h1 h2
  pred := M.pred
  ord := M.ord
  small := by intro u d h; simpa using M.small u d h
  room := by simpa using M.room
/-- A link that leads to no shorter way. -/
theorem Mid.keep {done : List ByteArray} {at_ : ByteArray} {da : Nat × Nat} {v : ByteArray} {m : Nat} {rest : List (ByteArray × Nat)} (M : Mid x f out done at_ da ((v, m) :: rest))
    {d' : Nat × Nat} (h1 : get out v = some d') (h2 : ¬ lt (da.1 + m, da.2 + 1) d') : Mid x f out done at_ da rest :=
  { M with
    shutA := by
      intro v' m' h
      rcases M.shutA v' m' h with h | h
      · rcases List.mem_cons.1 h with h | h
        · injection h with e1 e2
          subst e1; subst e2
          exact .inr ⟨d', h1, h2⟩
        · exact .inl h
      · exact .inr h }
/-- A link that leads to a shorter way, or to the first one. -/
theorem Mid.put {done : List ByteArray} {at_ : ByteArray} {da : Nat × Nat} {v : ByteArray} {m : Nat} {rest : List (ByteArray × Nat)} (M : Mid x f out done at_ da ((v, m) :: rest))
    (hm : (v, m) ∈ stepsAt x at_) (h2 : ∀ d', get out v = some d' → lt (da.1 + m, da.2 + 1) d') : Mid x f (put out v (da.1 + m, da.2 + 1)) done at_ da rest := by
  have hv : v ∉ at_ :: done := by
    intro hv
    obtain ⟨d, hd⟩ := M.have_ v hv
    have h3 := M.top v d hv hd
    have h4 := h2 d hd
    have h5 := lt_step da m
    unfold le lt at *
    simp at *
    omega
  have hva : v ≠ at_ := fun e => hv (by simp [e])
  have hvd : v ∉ done := fun e => hv (by simp [e])
  have hvf : v ≠ f := by
    rintro rfl
    have := h2 _ M.start
    unfold lt at this
    omega
  have old : ∀ u, u ≠ v → get (Hw.put out v (da.1 + m, da.2 + 1)) u = get out u := fun u hu => by rw [get_put, if_neg hu]
  have new_ : get (Hw.put out v (da.1 + m, da.2 + 1)) v = some (da.1 + m, da.2 + 1) := by rw [get_put, if_pos rfl]
  have ne_of : ∀ u, u ∈ at_ :: done → u ≠ v := fun u hu e => hv (e ▸ hu)
  have fall : ∀ w e, (∃ d', get out w = some d' ∧ le d' e) → ∃ d', get (Hw.put out v (da.1 + m, da.2 + 1)) w = some d' ∧ le d' e := by
    rintro w e ⟨d', h, hl⟩
    by_cases hw : w = v
    · subst hw
      exact ⟨_, new_, le_trans (le_of_lt (h2 d' h)) hl⟩
    · exact ⟨d', by rw [old w hw]; exact h, hl⟩
  refine { start := ?_, known := ?_, have_ := ?_, here := ?_, new := M.new, shut := ?_, shutA := ?_, pred := ?_, ord := ?_, top := ?_, small := ?_, smallA := M.smallA, room := M.room, less := M.less }
  · rw [old f (Ne.symm hvf)]; exact M.start
  · intro u d h
    by_cases hu : u = v
    · subst hu; exact names_step hm
    · rw [old u hu] at h; exact M.known u d h
  · intro u hu
    rw [old u (ne_of u hu)]; exact M.have_ u hu
  · rw [old at_ (Ne.symm hva)]; exact M.here
  · intro u d w k hu h1 h3
    rw [old u (ne_of u (List.mem_cons_of_mem _ hu))] at h1
    exact fall _ _ (M.shut u d w k hu h1 h3)
  · intro w k h
    rcases M.shutA w k h with h | h
    · rcases List.mem_cons.1 h with h | h
      · injection h with e1 e2
        subst e1; subst e2
        exact .inr ⟨_, new_, le_refl _⟩
      · exact .inl h
    · exact .inr (fall _ _ h)
  · intro u d h hne
    by_cases hu : u = v
    · subst hu
      rw [new_] at h
      injection h with h
      exact ⟨at_, da, m, by simp, by rw [old at_ (Ne.symm hva)]; exact M.here, hm, h.symm⟩
    · rw [old u hu] at h
      obtain ⟨w, dw, k, h1, h3, h4, h5⟩ := M.pred u d h hne
      exact ⟨w, dw, k, h1, by rw [old w (ne_of w h1)]; exact h3, h4, h5⟩
  · intro u w d d' hu hw h1 h3
    rw [old u (ne_of u hu)] at h1
    by_cases hwv : w = v
    · subst hwv
      rw [new_] at h3
      injection h3 with h3
      subst h3
      exact le_add m (M.top u d hu h1)
    · rw [old w hwv] at h3
      exact M.ord u w d d' hu hw h1 h3
  · intro u d hu h1
    rw [old u (ne_of u hu)] at h1
    exact M.top u d hu h1
  · intro u d h
    by_cases hu : u = v
    · subst hu
      rw [new_] at h
      injection h with h
      subst h
      have := M.smallA
      simp
      omega
    · rw [old u hu] at h; exact M.small u d h

/-! ### how long it can get -/
theorem bound_of (hs : get out f = some (0, 0)) (hp : ∀ u d, get out u = some d → u ≠ f → ∃ v dv m, get out v = some dv ∧ (u, m) ∈ stepsAt x v ∧ d = (dv.1 + m, dv.2 + 1))
    {M : Nat} (hM : ∀ l ∈ x, l.m ≤ M) : ∀ (n : Nat) (u : ByteArray) (d : Nat × Nat), d.2 ≤ n → get out u = some d → d.1 ≤ d.2 * M := by
  intro n
  induction n with
  | zero =>
    intro u d hn hd
    by_cases hu : u = f
    · subst hu
      rw [hs] at hd; injection hd with hd; subst hd
      simp
    · obtain ⟨v, dv, m, _, _, e⟩ := hp u d hd hu
      rw [e] at hn
      simp at hn
  | succ n ih =>
    intro u d hn hd
    by_cases hu : u = f
    · subst hu
      rw [hs] at hd; injection hd with hd; subst hd
      simp
    · obtain ⟨v, dv, m, hv, hm, e⟩ := hp u d hd hu
      subst e
      have h1 := ih v dv (by simp at hn; exact hn) hv
      obtain ⟨l, hl, h2⟩ := mem_steps.1 hm
      have := hM l hl
      simp only [Nat.add_mul, Nat.one_mul]
      omega
theorem Table.bound (T : Table x f out) {M : Nat} (hM : ∀ l ∈ x, l.m ≤ M) {u : ByteArray} {d : Nat × Nat} (h : get out u = some d) : d.1 ≤ d.2 * M :=
  bound_of T.start T.pred hM d.2 u d (Nat.le_refl _) h
theorem Mid.bound {done : List ByteArray} {at_ : ByteArray} {da : Nat × Nat} {rest : List (ByteArray × Nat)} (I : Mid x f out done at_ da rest) {M : Nat} (hM : ∀ l ∈ x, l.m ≤ M) {u : ByteArray} {d : Nat × Nat} (h : get out u = some d) : d.1 ≤ d.2 * M :=
  bound_of I.start (fun u d h hu => let ⟨v, dv, m, _, h2⟩ := I.pred u d h hu; ⟨v, dv, m, h2⟩) hM d.2 u d (Nat.le_refl _) h
end Go.Hw

namespace Go.Hw
open Go.MapKept Go.RowKit

def nilSlice : Value := .slice none 0 0
/-- The slice that a lookup gives. -/
def rowOf (m : List (ByteArray × Value)) (u : ByteArray) : Value := (get m u).getD nilSlice

structure Groups {β : Type} (w : World) (base b : Nat) (E : TypeId) (size : Nat) (enc : β → List Value) (S : ByteArray → List β) (m : List (ByteArray × Value)) : Prop where
  map_ : MapIs w b (fun v : Value => v) m
  rows : ∀ u, w.ownsRow base E size (rowOf m u) (S u).length ((S u).flatMap enc)
  apart : ∀ u u' g, u ≠ u' → (rowOf m u).ownBlock = some g → (rowOf m u').ownBlock ≠ some g

section
variable {β : Type} {w w' : World} {base b : Nat} {E : TypeId} {size : Nat} {enc : β → List Value} {S : ByteArray → List β} {m : List (ByteArray × Value)}
theorem Groups.made (w : World) (base : Nat) (E : TypeId) (size : Nat) (enc : β → List Value) : Groups (w.alloc (.map #[] 0)) base w.heap.size E size enc (fun _ => []) [] where
  map_ := MapIs.made w _
  rows := fun u => World.ownsRow_nil _ _ _ _
  apart := fun u u' g _ h => by simp [rowOf, get_nil, nilSlice, Value.ownBlock] at h
theorem Groups.not_map (h : Groups w base b E size enc S m) (u : ByteArray) : (rowOf m u).ownBlock ≠ some b := by
  intro hb
  rcases (h.rows u).2 with ⟨h1, _⟩ | ⟨g, cap, cur, h1, _, h2, _⟩
  · rw [h1] at hb; simp [Value.ownBlock] at hb
  · rw [h1] at hb
    simp [Value.ownBlock] at hb
    subst hb
    obtain ⟨es, clock, h3, _⟩ := h.map_
    rw [h2] at h3
    cases h3
/-- What writes neither the map nor a row keeps all. -/
theorem Groups.keep {row : Option Nat} (h : Groups w base b E size enc S m) (hg : w.grownBy w' row) (hb : some b ≠ row) (hr : ∀ u, (rowOf m u).ownBlock = none ∨ (rowOf m u).ownBlock ≠ row) : Groups w' base b E size enc S m where
  map_ := h.map_.grown hg hb
  rows := fun u => (h.rows u).kept hg (hr u)
  apart := h.apart
theorem Groups.alloc (h : Groups w base b E size enc S m) (o : Obj) : Groups (w.alloc o) base b E size enc S m :=
  h.keep (World.grownBy_alloc w o none) (by simp) (fun u => by cases hv : (rowOf m u).ownBlock <;> simp)
theorem Groups.drew (h : Groups w base b E size enc S m) : Groups w.drew base b E size enc S m := h.keep (row := none) ⟨rfl, rfl, rfl, Nat.le_refl _, fun _ _ _ => rfl⟩ (by simp) (fun u => by cases hv : (rowOf m u).ownBlock <;> simp)
theorem Groups.look {P : Program} {t kt et : TypeId} (h : Groups w base b E size enc S m) (ht : P.underlying t = some (.map kt et)) (hk : P.underlying kt = some .string) (hz : ∀ w : World, (zeroValue et).run P w = .ok (.slice none 0 0) w) (u : ByteArray) :
    ∀ W : World, W.heap[b]? = w.heap[b]? → (Instr.lookup t (.map (some b)) (.string u) false).run P W = .ok (rowOf m u) W := by
  intro W hW
  rw [run_get (h.map_.keep hW) ht hk (hz W) u]
  unfold rowOf nilSlice
  cases get m u <;> rfl
theorem Groups.put {P : Program} {t kt et : TypeId} (h : Groups w base b E size enc S m) (ht : P.underlying t = some (.map kt et)) (hk : P.underlying kt = some .string) (u : ByteArray) (s : β)
    {w1 : World} {g n cap H : Nat} (hown : w1.ownsRow base E size (.slice (some ⟨g, 0, none⟩) n cap) n ((S u ++ [s]).flatMap enc)) (hn : n = (S u ++ [s]).length) (hgr : w.grownBy w1 (rowOf m u).ownBlock)
    (hat : (rowOf m u).ownBlock = some g ∨ g = H) (hH : H = w.heap.size) :
    ∃ w2, (Instr.mapUpdate t (.map (some b)) (.string u) (.slice (some ⟨g, 0, none⟩) n cap)).run P w1 = .ok () w2 ∧
      Groups w2 base b E size enc (fun x => if x = u then S u ++ [s] else S x) (Hw.put m u (.slice (some ⟨g, 0, none⟩) n cap)) ∧ w1.grownBy w2 (some b) := by
  subst hn
  have hnm := h.not_map u
  have hm1 : MapIs w1 b (fun v : Value => v) m := h.map_.grown hgr (fun e => hnm e.symm)
  obtain ⟨w2, hrun, hm2, hg2, hz2⟩ := run_put hm1 ht hk u (.slice (some ⟨g, 0, none⟩) (S u ++ [s]).length cap)
  have hgb : g ≠ b := by
    rintro rfl
    rcases hat with h1 | h1
    · exact hnm h1
    · have := h.map_.lt; omega
  have hrow : ∀ x, rowOf (Hw.put m u (.slice (some ⟨g, 0, none⟩) (S u ++ [s]).length cap)) x = if x = u then .slice (some ⟨g, 0, none⟩) (S u ++ [s]).length cap else rowOf m x := by
    intro x
    unfold rowOf
    rw [get_put]
    by_cases hx : x = u <;> simp [hx]
  have hother : ∀ x, x ≠ u → w2.ownsRow base E size (rowOf m x) (S x).length ((S x).flatMap enc) ∧ (rowOf m x).ownBlock ≠ some g := by
    intro x hx
    have h1 : (rowOf m x).ownBlock = none ∨ (rowOf m x).ownBlock ≠ (rowOf m u).ownBlock := by
      cases hv : (rowOf m x).ownBlock with
      | none => exact .inl rfl
      | some j => exact .inr (fun e => h.apart x u j hx hv e.symm)
    have h2 := (h.rows x).kept hgr h1
    refine ⟨h2.kept hg2 (.inr ?_), ?_⟩
    · intro e
      exact h.not_map x e
    · intro e
      rcases hat with h3 | h3
      · exact h.apart u x g (Ne.symm hx) h3 e
      · have := (h.rows x).lt g e; omega
  refine ⟨w2, hrun, ⟨hm2, fun x => ?_, fun x x' j hne hj => ?_⟩, hg2⟩
  · rw [hrow]
    by_cases hx : x = u
    · subst hx
      simp only [if_true]
      exact hown.kept hg2 (.inr (by simp [Value.ownBlock, hgb]))
    · simp only [hx, if_false]
      exact (hother x hx).1
  · rw [hrow] at hj ⊢
    by_cases hx : x = u
    · subst hx
      rw [if_pos rfl] at hj
      simp [Value.ownBlock] at hj
      subst hj
      rw [if_neg (Ne.symm hne)]
      exact (hother x' (Ne.symm hne)).2
    · rw [if_neg hx] at hj
      by_cases hx' : x' = u
      · subst hx'
        rw [if_pos rfl]
        intro e
        simp [Value.ownBlock] at e
        subst e
        exact (hother x hx).2 hj
      · rw [if_neg hx']
        exact h.apart x x' j hne hj
end
end Go.Hw

namespace Go.Proofs.YtkbbmlkgaooaiaaGreatDoor
open Go.RowKit Go.Hw

def stCells (s : ByteArray × Nat) : List Value := [.string s.1, .int .i64 (s.2 : Int)]
def lkOf (x : Link) : Lk := ⟨x.a, x.b, (x.m : Int)⟩
theorem Tryz.infoStep : (Tryz.prog.info? 125).map (fun i => (i.zero, i.size, i.bytes)) = some (some (.agg #[.string ⟨#[]⟩, .int .i64 0]), 2, 24) := by kernel_rfl
theorem Tryz.zeroSteps (w : World) : (zeroValue 123).run Tryz.prog w = .ok (.slice none 0 0) w := by kernel_rfl

theorem stepsAt_snoc (x : List Link) (l : Link) (u : ByteArray) : stepsAt (x ++ [l]) u = stepsAt x u ++ ((if l.a = u then [(l.b, l.m)] else []) ++ (if l.b = u then [(l.a, l.m)] else [])) := by
  simp [stepsAt]
theorem steps_length (x : List Link) (u : ByteArray) : (stepsAt x u).length ≤ 2 * x.length := by
  induction x with
  | nil => simp [stepsAt]
  | cons l x ih =>
    unfold stepsAt at *
    rw [List.flatMap_cons, List.length_append, List.length_cons, List.length_append]
    have h1 : (if l.a = u then [(l.b, l.m)] else []).length ≤ 1 := by split <;> simp
    have h2 : (if l.b = u then [(l.a, l.m)] else []).length ≤ 1 := by split <;> simp
    omega
theorem steps_two (x : List Link) (l : Link) (h : l.a ≠ l.b) :
    (fun v => if v = l.b then (fun v => if v = l.a then stepsAt x l.a ++ [(l.b, l.m)] else stepsAt x v) l.b ++ [(l.a, l.m)] else (fun v => if v = l.a then stepsAt x l.a ++ [(l.b, l.m)] else stepsAt x v) v) = stepsAt (x ++ [l]) := by
  funext v
  rw [stepsAt_snoc]
  by_cases h1 : v = l.b
  · subst h1
    simp [h, Ne.symm h]
  · by_cases h2 : v = l.a
    · subst h2
      simp [h, Ne.symm h]
    · simp [h1, h2, Ne.symm h1, Ne.symm h2]

set_option maxRecDepth 100000 in
set_option maxHeartbeats 1000000 in
theorem stepsOf_any (A : Option Addr) (cap : Nat) (xs : List Link) (w : World) (h : LksAt w w.heap.size A (xs.map lkOf)) (hl : xs.length ≤ 1000000) (hne : ∀ x ∈ xs, x.a ≠ x.b) :
    Calls Tryz.prog 62 #[.slice A xs.length cap] w fun e w' => ∃ b m, e = .returned (.map (some b)) ∧ Groups w' w.heap.size b 125 2 stCells (stepsAt xs) m ∧ Below w.heap.size w w' ∧ w.heap.size ≤ b := by
  have hmm := @run_makeMap Tryz.prog
  obtain ⟨i0, hi, hz0, hz1, hz2⟩ := info_parts Tryz.infoStep
  have H := Lib.hid h
  have HN := Lib.hid hne
  clear h hne
  go_enter Tryz.func62, Tryz.ntmps62
  go_wp2_with fail
  go_loopw [9] (fun i wr => ∃ k m, k ≤ xs.length ∧ i = .int .i64 (k : Nat) ∧ Groups wr w.heap.size w.heap.size 125 2 stCells (stepsAt (xs.take k)) m ∧ Below w.heap.size w wr) (fun i _ => xs.length - (intOf i).toNat)
  case atStart => exact ⟨0, [], Nat.zero_le _, rfl, Groups.made _ _ _ _ _, (Below.refl _ _).alloc (Nat.le_refl _) _⟩
  case round =>
    obtain ⟨k, m, hk, rfl, hG, hb⟩ := hrel
    by_cases hlt : k < xs.length
    · obtain ⟨g, off, rfl, hg, c0, c1, c2⟩ := (H.out.below hb) k (by simpa using hlt)
      have hx : (xs.map lkOf).getD k noLk = lkOf xs[k] := by simp [List.getElem?_eq_getElem hlt]
      rw [hx] at c0 c1 c2
      have hab := HN.out xs[k] (List.getElem_mem hlt)
      have htk : xs.take (k + 1) = xs.take k ++ [xs[k]] := by rw [List.take_succ_eq_append_getElem hlt]
      have HT := Lib.hid htk
      clear htk hx
      generalize xs[k] = x at *
      obtain ⟨xa, xb, xm⟩ := x
      simp only [lkOf] at c0 c1 c2 hab
      have hys : (xs.take k).length ≤ xs.length := by simp; omega
      generalize xs.take k = ys at *
      have hsa := steps_length ys xa
      have hsb := steps_length ys xb
      go_wp2_with fail
      obtain ⟨wa, hwa⟩ : ∃ wa : World, wa = wr.alloc (.cells #[.string xa, .string xb, .int .i64 xm] 64) := ⟨_, rfl⟩
      rw [← hwa]
      have hGa := hG.alloc (.cells #[.string xa, .string xb, .int .i64 xm] 64)
      have hba := hb.alloc hb.size (.cells #[.string xa, .string xb, .int .i64 xm] 64)
      have x0 : (wr.alloc (.cells #[.string xa, .string xb, .int .i64 xm] 64)).cell? ⟨wr.heap.size, 0, none⟩ = some (.string xa) := by simp only [World.cell?, heap_alloc_new]; rfl
      have x1 : (wr.alloc (.cells #[.string xa, .string xb, .int .i64 xm] 64)).cell? ⟨wr.heap.size, 1, none⟩ = some (.string xb) := by simp only [World.cell?, heap_alloc_new]; rfl
      have x2 : (wr.alloc (.cells #[.string xa, .string xb, .int .i64 xm] 64)).cell? ⟨wr.heap.size, 2, none⟩ = some (.int .i64 xm) := by simp only [World.cell?, heap_alloc_new]; rfl
      have hbx : wr.heap.size < (wr.alloc (.cells #[.string xa, .string xb, .int .i64 xm] 64)).heap.size := by simp
      have hbw : w.heap.size < wr.heap.size := hG.map_.lt
      have hnr : ∀ u, (rowOf m u).ownBlock ≠ some wr.heap.size := fun u e => by have := (hG.rows u).lt _ e; omega
      rw [← hwa] at hGa hba x0 x1 x2 hbx
      clear hG hb c0 c1 c2 hwa
      generalize wr.heap.size = bx at *
      have hL1 := hGa.look Tryz.underlying116 Tryz.underlying9 Tryz.zeroSteps xa wa.drew rfl
      have hL2 := hGa.look Tryz.underlying116 Tryz.underlying9 Tryz.zeroSteps xa (wa.alloc (.cells #[.string xb, .int .i64 xm] 125)).drew (Below.heap_alloc _ _ _ hGa.map_.lt)
      have v0 : (wa.alloc (.cells #[.string xb, .int .i64 xm] 125)).drew.cell? ⟨bx, 0, none⟩ = some (.string xa) := (World.cell?_alloc_lt wa _ ⟨bx, 0, none⟩ hbx).trans x0
      have v1 : (wa.alloc (.cells #[.string xb, .int .i64 xm] 125)).drew.cell? ⟨bx, 1, none⟩ = some (.string xb) := (World.cell?_alloc_lt wa _ ⟨bx, 1, none⟩ hbx).trans x1
      have v2 : (wa.alloc (.cells #[.string xb, .int .i64 xm] 125)).drew.cell? ⟨bx, 2, none⟩ = some (.int .i64 xm) := (World.cell?_alloc_lt wa _ ⟨bx, 2, none⟩ hbx).trans x2
      have V0 := Lib.hid v0
      have V1 := Lib.hid v1
      have V2 := Lib.hid v2
      clear v0 v1 v2
      have HG := Lib.hid hGa
      have HB := Lib.hid hba
      have HNR := Lib.hid hnr
      clear hGa hba hnr
      go_region_held3 (fun w' => w'.cell? ⟨bx, 0, none⟩ = some (.string xa) ∧ w'.cell? ⟨bx, 1, none⟩ = some (.string xb) ∧ w'.cell? ⟨bx, 2, none⟩ = some (.int .i64 xm))
        (first | go_keep | exact ⟨x0, x1, x2⟩ | exact ⟨V0.out, V1.out, V2.out⟩ | exact ⟨y0, y1, y2⟩ | exact ⟨z0, z1, z2⟩)
        ((refine step_append_lies _ (by rfl) _ _ _ (by rfl) w.heap.size 125 i0 _ 2 24 Tryz.underlying123 hi hz0 hz1 hz2 rfl (by omega) (rowOf m xa) _ _ (by rfl) ((HG.out.alloc (.cells #[.string xb, .int .i64 xm] 125)).drew.rows xa)
            ⟨wa.heap.size, 0, none⟩ 1 1 [.string xb, .int .i64 xm] (by rfl) (by rfl) (World.news_of_block (cs := #[.string xb, .int .i64 xm]) (t := 125) (fr := (0, 0)) (heap_alloc_new wa _)) (by simp [Value.oneCell'])
            (by omega) (by unfold maxLen; omega) (by omega) (by simp; omega) (wa.heap.size + 1) (by simp) ?_; intro gg cg w1 hown1 hgrow hat _
          have y0 : w1.cell? ⟨bx, 0, none⟩ = some (.string xa) := (hgrow.cell_far _ (by simp; omega) (Ne.symm (HNR.out xa))).trans V0.out
          have y1 : w1.cell? ⟨bx, 1, none⟩ = some (.string xb) := (hgrow.cell_far _ (by simp; omega) (Ne.symm (HNR.out xa))).trans V1.out
          have y2 : w1.cell? ⟨bx, 2, none⟩ = some (.int .i64 xm) := (hgrow.cell_far _ (by simp; omega) (Ne.symm (HNR.out xa))).trans V2.out
          obtain ⟨w2, hrun2, hG2, hg2⟩ := Groups.put ((HG.out.alloc (.cells #[.string xb, .int .i64 xm] 125)).drew) Tryz.underlying116 Tryz.underlying9 xa (xb, xm) (by simpa [stCells] using hown1) (by simp) hgrow hat (by simp [World.drew])
          have z0 : w2.cell? ⟨bx, 0, none⟩ = some (.string xa) := (hg2.cell_far _ (World.block_lt_of_cell? _ _ y0) (by simp; omega)).trans y0
          have z1 : w2.cell? ⟨bx, 1, none⟩ = some (.string xb) := (hg2.cell_far _ (World.block_lt_of_cell? _ _ y1) (by simp; omega)).trans y1
          have z2 : w2.cell? ⟨bx, 2, none⟩ = some (.int .i64 xm) := (hg2.cell_far _ (World.block_lt_of_cell? _ _ y2) (by simp; omega)).trans y2))
      all_goals
        have hb2 : Below w.heap.size w w2 := ((((HB.out.alloc (Nat.le_of_lt (Nat.lt_trans hbw hbx)) (.cells #[.string xb, .int .i64 xm] 125)).drew).grown hgrow (by simp [World.drew]; omega) (fun j hj => ((HG.out.rows xa).lt j hj).1)).grown hg2 (by have := hgrow.size; simp [World.drew] at this; omega) (fun j hj => by injection hj with hj; omega))
        have hnr2 : ∀ u, (rowOf (Hw.put m xa (.slice (some ⟨gg, 0, none⟩) ((stepsAt ys xa).length + 1) cg)) u).ownBlock ≠ some bx := by
          intro u hu
          unfold rowOf at hu
          rw [get_put] at hu
          by_cases hx : u = xa
          · rw [if_pos hx] at hu
            simp [Value.ownBlock] at hu
            subst hu
            rcases hat with h1 | h1
            · exact HNR.out xa h1
            · omega
          · rw [if_neg hx] at hu
            exact HNR.out u hu
        clear hgrow hg2 hat hown1 hrun2 y0 y1 y2 HG HB HNR V0 V1 V2 hL1 hL2 x0 x1 x2 hbx
        have hbx2 : bx < w2.heap.size := World.block_lt_of_cell? _ _ z0
        generalize Hw.put m xa (.slice (some ⟨gg, 0, none⟩) ((stepsAt ys xa).length + 1) cg) = m2 at *
        have hs2 : (fun v => if v = xb then (fun v => if v = xa then stepsAt ys xa ++ [(xb, xm)] else stepsAt ys v) xb ++ [(xa, xm)] else (fun v => if v = xa then stepsAt ys xa ++ [(xb, xm)] else stepsAt ys v) v) = stepsAt (ys ++ [⟨xa, xb, xm⟩]) := steps_two ys ⟨xa, xb, xm⟩ hab
        have hsl : ((fun v => if v = xa then stepsAt ys xa ++ [(xb, xm)] else stepsAt ys v) xb).length ≤ 2 * ys.length := by simp only [if_neg (Ne.symm hab)]; exact hsb
        generalize (fun v => if v = xa then stepsAt ys xa ++ [(xb, xm)] else stepsAt ys v) = S2 at *
        have HS2 := Lib.hid hs2
        clear hs2
        go_wp2_with fail
        have hL1 := hG2.look Tryz.underlying116 Tryz.underlying9 Tryz.zeroSteps xb w2.drew rfl
        have hL2 := hG2.look Tryz.underlying116 Tryz.underlying9 Tryz.zeroSteps xb (w2.alloc (.cells #[.string xa, .int .i64 xm] 125)).drew (Below.heap_alloc _ _ _ hG2.map_.lt)
        have v0 : (w2.alloc (.cells #[.string xa, .int .i64 xm] 125)).drew.cell? ⟨bx, 0, none⟩ = some (.string xa) := (World.cell?_alloc_lt w2 _ ⟨bx, 0, none⟩ hbx2).trans z0
        have v1 : (w2.alloc (.cells #[.string xa, .int .i64 xm] 125)).drew.cell? ⟨bx, 1, none⟩ = some (.string xb) := (World.cell?_alloc_lt w2 _ ⟨bx, 1, none⟩ hbx2).trans z1
        have v2 : (w2.alloc (.cells #[.string xa, .int .i64 xm] 125)).drew.cell? ⟨bx, 2, none⟩ = some (.int .i64 xm) := (World.cell?_alloc_lt w2 _ ⟨bx, 2, none⟩ hbx2).trans z2
        have V0 := Lib.hid v0
        have V1 := Lib.hid v1
        have V2 := Lib.hid v2
        clear v0 v1 v2
        have HG := Lib.hid hG2
        have HB := Lib.hid hb2
        have HNR := Lib.hid hnr2
        clear hG2 hb2 hnr2
        go_region_held3 (fun w' => w'.cell? ⟨bx, 0, none⟩ = some (.string xa) ∧ w'.cell? ⟨bx, 1, none⟩ = some (.string xb) ∧ w'.cell? ⟨bx, 2, none⟩ = some (.int .i64 xm))
          (first | go_keep | exact ⟨z0, z1, z2⟩ | exact ⟨V0.out, V1.out, V2.out⟩ | exact ⟨y0, y1, y2⟩ | exact ⟨t0, t1, t2⟩)
          ((refine step_append_lies _ (by rfl) _ _ _ (by rfl) w.heap.size 125 i0 _ 2 24 Tryz.underlying123 hi hz0 hz1 hz2 rfl (by omega) (rowOf m2 xb) _ _ (by rfl) ((HG.out.alloc (.cells #[.string xa, .int .i64 xm] 125)).drew.rows xb)
              ⟨w2.heap.size, 0, none⟩ 1 1 [.string xa, .int .i64 xm] (by rfl) (by rfl) (World.news_of_block (cs := #[.string xa, .int .i64 xm]) (t := 125) (fr := (0, 0)) (heap_alloc_new w2 _)) (by simp [Value.oneCell'])
              (by omega) (by unfold maxLen; omega) (by omega) (by simp; omega) (w2.heap.size + 1) (by simp) ?_; intro gh ch w3 hown1 hgrow hat _
            have y0 : w3.cell? ⟨bx, 0, none⟩ = some (.string xa) := (hgrow.cell_far _ (by simp; omega) (Ne.symm (HNR.out xb))).trans V0.out
            have y1 : w3.cell? ⟨bx, 1, none⟩ = some (.string xb) := (hgrow.cell_far _ (by simp; omega) (Ne.symm (HNR.out xb))).trans V1.out
            have y2 : w3.cell? ⟨bx, 2, none⟩ = some (.int .i64 xm) := (hgrow.cell_far _ (by simp; omega) (Ne.symm (HNR.out xb))).trans V2.out
            obtain ⟨w4, hrun3, hG4, hg4⟩ := Groups.put ((HG.out.alloc (.cells #[.string xa, .int .i64 xm] 125)).drew) Tryz.underlying116 Tryz.underlying9 xb (xa, xm) (by simpa [stCells] using hown1) (by simp) hgrow hat (by simp [World.drew])
            have t0 : w4.cell? ⟨bx, 0, none⟩ = some (.string xa) := (hg4.cell_far _ (World.block_lt_of_cell? _ _ y0) (by simp; omega)).trans y0
            have t1 : w4.cell? ⟨bx, 1, none⟩ = some (.string xb) := (hg4.cell_far _ (World.block_lt_of_cell? _ _ y1) (by simp; omega)).trans y1
            have t2 : w4.cell? ⟨bx, 2, none⟩ = some (.int .i64 xm) := (hg4.cell_far _ (World.block_lt_of_cell? _ _ y2) (by simp; omega)).trans y2))
        all_goals
          have hb4 : Below w.heap.size w w4 := ((((HB.out.alloc (Nat.le_of_lt (Nat.lt_trans hbw hbx2)) (.cells #[.string xa, .int .i64 xm] 125)).drew).grown hgrow (by simp [World.drew]; omega) (fun j hj => ((HG.out.rows xb).lt j hj).1)).grown hg4 (by have := hgrow.size; simp [World.drew] at this; omega) (fun j hj => by injection hj with hj; omega))
          rw [HS2.out] at hG4
          clear hgrow hg4 hat hown1 hrun3 y0 y1 y2 t0 t1 t2 z0 z1 z2 HG HB HNR V0 V1 V2 hL1 hL2 hbx2 HS2
          go_wp2_with fail
          go_roundw
          case rel => exact ⟨k + 1, _, by omega, by go_num, by rw [HT.out]; exact hG4, hb4⟩
          case measure => simp [intOf]; omega
    · have : k = xs.length := by omega
      subst this
      rw [List.take_length] at hG
      go_wp2_with fail
      go_ret
      exact ⟨_, _, rfl, hG, hb, Nat.le_refl _⟩
end Go.Proofs.YtkbbmlkgaooaiaaGreatDoor

namespace Go.Proofs.YtkbbmlkgaooaiaaGreatDoor
open Go.RowKit Go.Hw

def farV (p : Nat × Nat) : Value := .agg #[.int .i64 (p.1 : Int), .int .i64 (p.2 : Int)]
set_option maxHeartbeats 400000 in
theorem less_any (p q : Nat × Nat) (w : World) :
    Calls Tryz.prog 87 #[farV p, farV q] w fun e w' => e = .returned (.bool (decide (lt p q))) ∧ Below w.heap.size w w' := by
  obtain ⟨p1, p2⟩ := p
  obtain ⟨q1, q2⟩ := q
  unfold farV
  have hb : Below w.heap.size w ((w.alloc (.cells #[.int .i64 (p1 : Int), .int .i64 (p2 : Int)] 121)).alloc (.cells #[.int .i64 (q1 : Int), .int .i64 (q2 : Int)] 121)) := ((Below.refl _ _).alloc (Nat.le_refl _) _).alloc (by simp) _
  by_cases h1 : p1 < q1
  · have HF : Hid (decide (lt (p1, p2) (q1, q2)) = true) := Lib.hid (decide_eq_true (by unfold lt; simp only; omega))
    have h1' : decide (p1 < q1) = true := by simp; omega
    go_enter Tryz.func87, Tryz.ntmps87
    go_wp2_with fail
    go_ret
    exact ⟨ret_bool HF.out.symm, hb⟩
  · have h1' : decide (p1 < q1) = false := by simp; omega
    by_cases h2 : p1 = q1
    · subst h2
      have HF : Hid (decide (lt (p1, p2) (p1, q2)) = decide (p2 < q2)) := Lib.hid (by unfold lt; simp)
      clear h1
      go_enter Tryz.func87, Tryz.ntmps87
      go_wp2_with fail
      go_ret
      exact ⟨ret_bool HF.out.symm, hb⟩
    · have h2' : ((p1 : Int) == (q1 : Int)) = false := by simp; omega
      have HF : Hid (decide (lt (p1, p2) (q1, q2)) = false) := Lib.hid (decide_eq_false (by unfold lt; simp only; omega))
      clear h1 h2
      go_enter Tryz.func87, Tryz.ntmps87
      go_wp2_with fail
      go_ret
      exact ⟨ret_bool HF.out.symm, hb⟩
end Go.Proofs.YtkbbmlkgaooaiaaGreatDoor

namespace Go.Proofs.YtkbbmlkgaooaiaaGreatDoor
open Go.RowKit Go.Hw

theorem own_below {w w' : World} {base B : Nat} {e : TypeId} {size : Nat} {v : Value} {n : Nat} {xs : List Value} (h : w.ownsRow base e size v n xs) (hb : Below B w w') (hB : w.heap.size ≤ B) : w'.ownsRow base e size v n xs := by
  obtain ⟨h1, h2 | ⟨g, cap, cur, h3, h4, h5, h6⟩⟩ := h
  · exact ⟨h1, .inl h2⟩
  · have := (Array.getElem?_eq_some_iff.1 h5).1
    exact ⟨h1, .inr ⟨g, cap, cur, h3, h4, (hb.block g (by omega)).trans h5, h6⟩⟩
theorem groups_below {β : Type} {w w' : World} {base b : Nat} {E : TypeId} {size : Nat} {enc : β → List Value} {S : ByteArray → List β} {m : List (ByteArray × Value)} (h : Groups w base b E size enc S m) (hb : Below w.heap.size w w') : Groups w' base b E size enc S m where
  map_ := h.map_.below hb h.map_.lt
  rows := fun u => own_below (h.rows u) hb (Nat.le_refl _)
  apart := h.apart
theorem own_reads {w : World} {base : Nat} {e : TypeId} {size : Nat} {v : Value} {n : Nat} {xs : List Value} (h : w.ownsRow base e size v n xs) :
    ∃ A cap, v = .slice A n cap ∧ ∀ j u, xs[j]? = some u → ∃ g, A = some ⟨g, 0, none⟩ ∧ g < w.heap.size ∧ w.cell? ⟨g, j, none⟩ = some u := by
  obtain ⟨h1, ⟨h2, h0⟩ | ⟨g, cap, cur, h3, h4, h5, h6⟩⟩ := h
  · subst h2
    subst h0
    refine ⟨none, 0, rfl, fun j u hu => ?_⟩
    have : xs = [] := List.eq_nil_of_length_eq_zero (by simpa using h1)
    subst this
    simp at hu
  · subst h3
    have hlt := (Array.getElem?_eq_some_iff.1 h5).1
    refine ⟨some ⟨g, 0, none⟩, cap, rfl, fun j u hu => ⟨g, rfl, hlt, ?_⟩⟩
    have := World.ownsRow.cells (g := g) (⟨h1, .inr ⟨g, cap, cur, rfl, h4, h5, h6⟩⟩ : w.ownsRow base e size _ n xs) rfl j u hu
    have hadd : (⟨g, 0, none⟩ : Addr).add j = ⟨g, j, none⟩ := by unfold Addr.add; split <;> simp_all
    rwa [hadd] at this
theorem Tryz.zeroFar (w : World) : (zeroValue 121).run Tryz.prog w = .ok (farV (0, 0)) w := by kernel_rfl
theorem Tryz.zeroBool (w : World) : (zeroValue 4).run Tryz.prog w = .ok (.bool false) w := by kernel_rfl

theorem fld0 (x y : Int) (w : World) : (Instr.field 121 (.agg #[.int .i64 x, .int .i64 y]) 0).run Tryz.prog w = .ok (.int .i64 x) w := by kernel_rfl
theorem fld1 (x y : Int) (w : World) : (Instr.field 121 (.agg #[.int .i64 x, .int .i64 y]) 1).run Tryz.prog w = .ok (.int .i64 y) w := by kernel_rfl
theorem run_done {w : World} {b : Nat} {dn : List (ByteArray × Bool)} {done : List ByteArray} (h : MapIs w b Value.bool dn) (hdn : ∀ u, (get dn u).getD false = isIn done u) (u : ByteArray) :
    (Instr.lookup 152 (.map (some b)) (.string u) false).run Tryz.prog w = .ok (.bool (isIn done u)) w := by
  rw [run_get h (P := Tryz.prog) Tryz.underlying152 Tryz.underlying9 (Tryz.zeroBool _) u, ← hdn u]
  cases get dn u <;> rfl
theorem run_far {w : World} {b : Nat} {out : List (ByteArray × (Nat × Nat))} (h : MapIs w b farV out) (u : ByteArray) :
    (Instr.lookup 118 (.map (some b)) (.string u) false).run Tryz.prog w = .ok (farV ((get out u).getD (0, 0))) w := by
  rw [run_get h (P := Tryz.prog) Tryz.underlying118 Tryz.underlying9 (Tryz.zeroFar _) u]
  cases get out u <;> rfl
theorem run_far_ok {w : World} {b : Nat} {out : List (ByteArray × (Nat × Nat))} (h : MapIs w b farV out) (u : ByteArray) :
    (Instr.lookup 118 (.map (some b)) (.string u) true).run Tryz.prog w = .ok (.tuple #[farV ((get out u).getD (0, 0)), .bool (get out u).isSome]) w := by
  rw [run_get_ok h (P := Tryz.prog) Tryz.underlying118 Tryz.underlying9 (Tryz.zeroFar _) u]
  cases get out u <;> rfl
/-- What holds ahead of a round: k names are still to come. -/
def DInv (w : World) (bo bd : Nat) (xs : List Link) (f : ByteArray) (k : Nat) (wr : World) : Prop :=
  ∃ out dn done, MapIs wr bo farV out ∧ MapIs wr bd Value.bool dn ∧ (∀ u, (get dn u).getD false = isIn done u) ∧ Inv xs f out done ∧ Below w.heap.size w wr ∧ k = undone xs f done
/-- What has been picked among the names that were handed out. -/
def Picked (out : List (ByteArray × (Nat × Nat))) (done seen : List ByteArray) (a : ByteArray) (found : Bool) : Prop :=
  (found = false ∧ a = ⟨#[]⟩ ∧ ∀ u ∈ seen, u ∈ done) ∨ (found = true ∧ ∃ da, get out a = some da ∧ a ∉ done ∧ ∀ u ∈ seen, u ∉ done → ∀ d, get out u = some d → le da d)
theorem Picked.skip {out : List (ByteArray × (Nat × Nat))} {done seen : List ByteArray} {a u : ByteArray} {found : Bool} (h : Picked out done seen a found) (hu : u ∈ done) : Picked out done (u :: seen) a found := by
  rcases h with ⟨h1, h2, h3⟩ | ⟨h1, da, h2, h3, h4⟩
  · refine .inl ⟨h1, h2, fun v hv => ?_⟩
    rcases List.mem_cons.1 hv with rfl | hv
    · exact hu
    · exact h3 v hv
  · refine .inr ⟨h1, da, h2, h3, fun v hv hn => ?_⟩
    rcases List.mem_cons.1 hv with rfl | hv
    · exact absurd hu hn
    · exact h4 v hv hn
theorem Picked.first {out : List (ByteArray × (Nat × Nat))} {done seen : List ByteArray} {a u : ByteArray} {d : Nat × Nat} (h : Picked out done seen a false) (hu : u ∉ done) (hg : get out u = some d) : Picked out done (u :: seen) u true := by
  rcases h with ⟨_, _, h3⟩ | ⟨h1, _⟩
  · refine .inr ⟨rfl, d, hg, hu, fun v hv hn e he => ?_⟩
    rcases List.mem_cons.1 hv with rfl | hv
    · rw [hg] at he; injection he with he; subst he; exact le_refl _
    · exact absurd (h3 v hv) hn
  · cases h1
theorem Picked.better {out : List (ByteArray × (Nat × Nat))} {done seen : List ByteArray} {a u : ByteArray} {d da : Nat × Nat} (h : Picked out done seen a true) (hu : u ∉ done) (hg : get out u = some d) (ha : get out a = some da) (hl : lt d da) : Picked out done (u :: seen) u true := by
  rcases h with ⟨h1, _⟩ | ⟨_, da', h2, h3, h4⟩
  · cases h1
  · rw [ha] at h2; injection h2 with h2; subst h2
    refine .inr ⟨rfl, d, hg, hu, fun v hv hn e he => ?_⟩
    rcases List.mem_cons.1 hv with rfl | hv
    · rw [hg] at he; injection he with he; subst he; exact le_refl _
    · exact le_trans (le_of_lt hl) (h4 v hv hn e he)
theorem Picked.worse {out : List (ByteArray × (Nat × Nat))} {done seen : List ByteArray} {a u : ByteArray} {d da : Nat × Nat} (h : Picked out done seen a true) (hg : get out u = some d) (ha : get out a = some da) (hl : ¬ lt d da) : Picked out done (u :: seen) a true := by
  rcases h with ⟨h1, _⟩ | ⟨_, da', h2, h3, h4⟩
  · cases h1
  · rw [ha] at h2; injection h2 with h2; subst h2
    refine .inr ⟨rfl, da, ha, h3, fun v hv hn e he => ?_⟩
    rcases List.mem_cons.1 hv with rfl | hv
    · rw [hg] at he; injection he with he; subst he; exact hl
    · exact h4 v hv hn e he
theorem Picked.known {out : List (ByteArray × (Nat × Nat))} {done seen : List ByteArray} {a : ByteArray} (h : Picked out done seen a true) : ∃ da, get out a = some da := by
  rcases h with ⟨h1, _⟩ | ⟨_, da, h2, _⟩
  · cases h1
  · exact ⟨da, h2⟩
theorem not_in {done : List ByteArray} {u : ByteArray} (h : isIn done u = false) : u ∉ done := fun hu => by rw [isIn_iff.2 hu] at h; cases h
theorem iter_below {α : Type} {w w' : World} {r b B : Nat} {f : α → Value} {m : List (ByteArray × α)} {seen : List ByteArray} {cnt : Nat} (h : IterIs w r b f m seen cnt) (hb : Below B w w') (hB : w.heap.size ≤ B) : IterIs w' r b f m seen cnt :=
  h.keep (hb.block b (Nat.lt_of_lt_of_le h.map_.lt hB)) (hb.block r (Nat.lt_of_lt_of_le h.lt hB))
theorem map_below {α : Type} {w w' : World} {b B : Nat} {f : α → Value} {m : List (ByteArray × α)} (h : MapIs w b f m) (hb : Below B w w') (hB : w.heap.size ≤ B) : MapIs w' b f m := h.keep (hb.block b (Nat.lt_of_lt_of_le h.lt hB))
theorem below_alloc (w : World) (o : Obj) : Below w.heap.size w (w.alloc o) := (Below.refl _ _).alloc (Nat.le_refl _) o
/-- What holds in the loop that picks. -/
def PInv (w : World) (r bo bd : Nat) (out : List (ByteArray × (Nat × Nat))) (dn : List (ByteArray × Bool)) (done : List ByteArray) (k : Nat) (v7 v8 : Value) (wi : World) : Prop :=
  ∃ seen a found, v7 = .string a ∧ v8 = .bool found ∧ IterIs wi r bo farV out seen k ∧ MapIs wi bd Value.bool dn ∧ Below w.heap.size w wi ∧ Picked out done seen a found

/-- What holds in the loop over the links of what has been picked. -/
def RInv (w : World) (bo bd : Nat) (xs : List Link) (f : ByteArray) (dn : List (ByteArray × Bool)) (done : List ByteArray) (a : ByteArray) (da : Nat × Nat) (k : Nat) (v53 : Value) (wi : World) : Prop :=
  ∃ i out, v53 = .int .i64 (i : Nat) ∧ i + k = (stepsAt xs a).length ∧ MapIs wi bo farV out ∧ MapIs wi bd Value.bool dn ∧ Below w.heap.size w wi ∧ Mid xs f out done a da ((stepsAt xs a).drop i)
theorem three_boxes (wr : World) (ca cb cc : Array Value) (A B C : TypeId) :
    (∀ j, (((wr.alloc (.cells ca A)).alloc (.cells cb B)).alloc (.cells cc C)).cell? ⟨wr.heap.size, j, none⟩ = ca[j]?) ∧
    (∀ j, (((wr.alloc (.cells ca A)).alloc (.cells cb B)).alloc (.cells cc C)).cell? ⟨wr.heap.size + 1, j, none⟩ = cb[j]?) := by
  have h1 : (((wr.alloc (.cells ca A)).alloc (.cells cb B)).alloc (.cells cc C)).heap[wr.heap.size]? = some (.cells ca A) := by
    rw [Below.heap_alloc _ _ _ (by simp; omega), Below.heap_alloc _ _ _ (by simp), heap_alloc_new]
  have hz : (wr.alloc (.cells ca A)).heap.size = wr.heap.size + 1 := by simp
  have h2 : (((wr.alloc (.cells ca A)).alloc (.cells cb B)).alloc (.cells cc C)).heap[wr.heap.size + 1]? = some (.cells cb B) := by
    rw [Below.heap_alloc _ _ _ (by simp), ← hz, heap_alloc_new]
  exact ⟨fun j => by simp only [World.cell?]; rw [h1]; simp, fun j => by simp only [World.cell?]; rw [h2]; simp⟩
theorem flat2 (l : List (ByteArray × Nat)) : ∀ i (h : i < l.length), (l.flatMap stCells)[i * 2]? = some (.string l[i].1) ∧ (l.flatMap stCells)[i * 2 + 1]? = some (.int .i64 (l[i].2 : Int)) := by
  induction l with
  | nil => intro i h; simp at h
  | cons x l ih =>
    intro i h
    cases i with
    | zero => exact ⟨rfl, rfl⟩
    | succ i =>
      have h2 := ih i (by simpa using h)
      have e1 : (i + 1) * 2 = (i * 2) + 2 := by omega
      rw [e1, List.flatMap_cons]
      have e2 : ∀ j, (stCells x ++ l.flatMap stCells)[j + 2]? = (l.flatMap stCells)[j]? := fun j => by
        rw [List.getElem?_append_right (by simp [stCells])]
        simp [stCells]
      rw [show i * 2 + 2 + 1 = (i * 2 + 1) + 2 from by omega, e2, e2]
      exact h2

set_option maxRecDepth 100000 in
set_option maxHeartbeats 1000000 in
theorem distances_any (bS : Nat) (mS : List (ByteArray × Value)) (base : Nat) (xs : List Link) (f : ByteArray) (w : World) (h : Groups w base bS 125 2 stCells (stepsAt xs) mS) (hl : xs.length ≤ 500) (hm : ∀ l ∈ xs, l.m ≤ 1000000) :
    Calls Tryz.prog 63 #[.map (some bS), .string f] w fun e w' => ∃ b out, e = .returned (.map (some b)) ∧ MapIs w' b farV out ∧ (Table xs f out ∧ ∀ u d, get out u = some d → d.2 ≤ 1001) ∧ Below w.heap.size w w' ∧ w.heap.size ≤ b := by
  have hmm := @run_makeMap Tryz.prog
  have H := Lib.hid h
  clear h
  have hmade := MapIs.made w farV
  obtain ⟨w1, hrun, hM1, hg1, hz1⟩ := run_put hmade (P := Tryz.prog) Tryz.underlying118 Tryz.underlying9 f (0, 0)
  have hrun' : (Instr.mapUpdate 118 (.map (some w.heap.size)) (.string f) (.agg #[.int .i64 0, .int .i64 0])).run Tryz.prog (w.alloc (.map #[] 0)) = .ok () w1 := hrun
  have hb1 : Below w.heap.size w w1 := ((Below.refl _ _).alloc (Nat.le_refl _) _).grown hg1 (by simp) (fun k hk => by injection hk with hk; omega)
  have hbo : w.heap.size < w1.heap.size := hM1.lt
  have hz2 : (w.alloc (.map #[] 0)).heap.size = w.heap.size + 1 := by simp
  rw [hz2] at hz1
  clear hz2
  rw [show Hw.put ([] : List (ByteArray × (Nat × Nat))) f (0, 0) = [(f, (0, 0))] from by simp [Hw.put, get_nil]] at hM1
  clear hrun hmade hg1
  go_enter Tryz.func63, Tryz.ntmps63
  go_wp2_with fail
  clear hrun'
  go_loopg [7] (undone xs f []) (fun k _ wr => DInv w w.heap.size (w.heap.size + 1) xs f k wr)
  case atStart =>
    refine ⟨[(f, (0, 0))], [], [], hM1.alloc _, ?_, fun u => by simp [get_nil, isIn], Inv.begin xs f, hb1.alloc hb1.size _, rfl⟩
    rw [← hz1]
    exact MapIs.made w1 Value.bool
  case round =>
    obtain ⟨out, dn, done, hO, hD, hdn, hI, hb, rfl⟩ := hrel
    obtain ⟨w2, hrange, hIt, hg2, _⟩ := run_iter hO (P := Tryz.prog) Tryz.underlying118
    obtain ⟨wo, rfl⟩ : ∃ wo : World, wo = wr := ⟨_, rfl⟩
    go_wp2_with fail
    go_loopg [7, 8] (out.length) (fun k v7 v8 wi => PInv w wo.heap.size w.heap.size (w.heap.size + 1) out dn done k v7 v8 wi)
    case atStart => exact ⟨[], ⟨#[]⟩, false, rfl, rfl, hIt, hD.grown hg2 (by simp), hb.grown hg2 hb.size (fun j hj => by cases hj), .inl ⟨rfl, rfl, by simp⟩⟩
    case round =>
      have HO := Lib.hid hO.keys
      have hbd : w.heap.size + 1 < wo.heap.size := hD.lt
      have HDN := Lib.hid hdn
      have HI := Lib.hid hI
      clear hO hrange hIt hg2 hb hD hdn hI
      obtain ⟨seen, a, found, rfl, rfl, hIt, hD, hb, hP⟩ := hrel
      rcases run_iter_next hIt (P := Tryz.prog) 0 with ⟨h0, hall, hrun⟩ | ⟨u, d, w3, k', hmem, hns, hrun, hIt', hlt, hg3, _, hent⟩
      · have hO := hIt.map_
        clear hIt h0
        cases found
        · have hT1 : Table xs f out := HI.out.table fun u d hu => by
            rcases hP with ⟨_, _, h3⟩ | ⟨h1, _⟩
            · exact h3 u (hall _ (get_mem hu))
            · cases h1
          have hT2 : ∀ u d, get out u = some d → d.2 ≤ 1001 := fun u d hu => by
            have h1 := HI.out.small u d hu
            have h2 := HI.out.room
            rw [names_length] at h2
            omega
          have hT := And.intro hT1 hT2
          clear hT1 hT2
          have HT := Lib.hid hT
          clear hT hP hall
          go_wp2_with fail
          go_ret
          exact ⟨_, out, rfl, hO, HT.out, hb, Nat.le_refl _⟩
        · obtain ⟨da, hda, hnd, hmin⟩ : ∃ da, get out a = some da ∧ a ∉ done ∧ ∀ v d, v ∉ done → get out v = some d → le da d := by
            rcases hP with ⟨h1, _⟩ | ⟨_, da, h2, h3, h4⟩
            · cases h1
            · exact ⟨da, h2, h3, fun v d hv hd => h4 v (hall _ (get_mem hd)) hv d hd⟩
          have HMid := Lib.hid (HI.out.mid hnd hda hmin)
          clear hP hall hda hmin hnd
          obtain ⟨w3, hrun3, hD3, hg3, _⟩ := run_put hD (P := Tryz.prog) Tryz.underlying152 Tryz.underlying9 a true
          have hO3 : MapIs w3 w.heap.size farV out := hO.grown hg3 (by simp)
          have hb3 : Below w.heap.size w w3 := hb.grown hg3 hb.size (fun j hj => by injection hj with hj; omega)
          have hdn3 : ∀ u, (get (Hw.put dn a true) u).getD false = isIn (a :: done) u := by
            intro u
            rw [get_put, isIn_cons]
            by_cases hu : u = a
            · simp [hu]
            · simp [hu, Ne.symm hu]
              exact HDN.out u
          have HDN3 := Lib.hid hdn3
          clear hD hO hb hg3 hdn3
          obtain ⟨A, cap, hrow, hcells⟩ := own_reads (H.out.rows a)
          have hlk := (groups_below H.out hb3).look Tryz.underlying116 Tryz.underlying9 Tryz.zeroSteps a w3 rfl
          have hall := rowOf mS a
          rw [hrow] at hlk
          clear hall
          have HC := Lib.hid hcells
          clear hcells hrow
          obtain ⟨p, q⟩ := da
          have hsl : (stepsAt xs a).length ≤ 1000 := by have := steps_length xs a; omega
          go_wp2_with fail
          clear hrun3 hlk hrun
          go_loopg [53] ((stepsAt xs a).length) (fun k v wi => RInv w w.heap.size (w.heap.size + 1) xs f (Hw.put dn a true) done a (p, q) k v wi)
          case atStart => exact ⟨0, out, rfl, by omega, hO3, hD3, hb3, HMid.out⟩
          case round =>
            clear hO3 hD3 hb3 HMid
            obtain ⟨i, out', rfl, hik, hO, hD, hb, hM⟩ := hrel
            by_cases hi : i < (stepsAt xs a).length
            · obtain ⟨e0, e1⟩ := flat2 _ i hi
              obtain ⟨g, rfl, hg, c0⟩ := HC.out _ _ e0
              obtain ⟨g', eg, hg', c1⟩ := HC.out _ _ e1
              injection eg with eg
              injection eg with eg
              subst eg
              have hdr : (stepsAt xs a).drop i = ((stepsAt xs a)[i].1, (stepsAt xs a)[i].2) :: (stepsAt xs a).drop (i + 1) := List.drop_eq_getElem_cons hi
              have hmem : ((stepsAt xs a)[i].1, (stepsAt xs a)[i].2) ∈ stepsAt xs a := List.getElem_mem hi
              rw [hdr] at hM
              have HMid := Lib.hid hM
              have HMem := Lib.hid hmem
              generalize (stepsAt xs a)[i].1 = v at *
              generalize (stepsAt xs a)[i].2 = m at *
              have bm : m ≤ 1000000 := by
                obtain ⟨l, hl, h2 | h2⟩ := mem_steps.1 HMem.out
                · rw [← h2.2.2]; exact hm l hl
                · rw [← h2.2.2]; exact hm l hl
              have bq : q ≤ 1001 := by
                have h1 := hM.smallA
                have h2 := hM.room
                rw [names_length] at h2
                simp only at h1
                omega
              have bp : p ≤ 1001000000 := by
                have h1 := hM.bound hm hM.here
                simp only at h1
                have : q * 1000000 ≤ 1001 * 1000000 := Nat.mul_le_mul_right _ bq
                omega
              have hgw : g < wr.heap.size := Nat.lt_of_lt_of_le hg hb.size
              rw [← hb.cell (by exact hg)] at c0 c1
              have hga := hM.here
              clear hM hdr hmem e0 e1 hg'
              have hl1 := run_far (hO.alloc (.cells #[.string v, .int .i64 (m : Int)] 125)) a
              rw [hga, Option.getD_some] at hl1
              unfold farV at hl1
              have hl2 := run_far_ok ((hO.alloc (.cells #[.string v, .int .i64 (m : Int)] 125)).alloc (.cells #[.int .i64 ((p : Int) + (m : Int)), .int .i64 ((q : Int) + 1)] 121)) v
              unfold farV at hl2
              clear hga
              have hf0 := fld0
              have hf1 := fld1
              have hbW2 : Below w.heap.size w ((wr.alloc (.cells #[.string v, .int .i64 (m : Int)] 125)).alloc (.cells #[.int .i64 ((p : Int) + (m : Int)), .int .i64 ((q : Int) + 1)] 121)) :=
                (hb.alloc hb.size _).alloc (by have := hb.size; simp; omega) _
              have hOW2 := (hO.alloc (.cells #[.string v, .int .i64 (m : Int)] 125)).alloc (.cells #[.int .i64 ((p : Int) + (m : Int)), .int .i64 ((q : Int) + 1)] 121)
              have hDW2 := (hD.alloc (.cells #[.string v, .int .i64 (m : Int)] 125)).alloc (.cells #[.int .i64 ((p : Int) + (m : Int)), .int .i64 ((q : Int) + 1)] 121)
              have hbs := hb.size
              have hbd' : w.heap.size + 1 < wr.heap.size := hD.lt
              have ec : ((p : Int) + (m : Int)) = ((p + m : Nat) : Int) := by omega
              have eq' : ((q : Int) + 1) = ((q + 1 : Nat) : Int) := by omega
              have EC := Lib.hid ec
              have EQ := Lib.hid eq'
              have HN := Lib.hid hik
              clear ec eq' hik
              cases hgv : get out' v with
              | none =>
                rw [hgv] at hl2
                simp only [Option.getD_none, Option.isSome_none] at hl2
                obtain ⟨w5, hput, hO5, hg5, _⟩ := run_put (hOW2.alloc (.cells #[.int .i64 0, .int .i64 0] 121)) (P := Tryz.prog) Tryz.underlying118 Tryz.underlying9 v (p + m, q + 1)
                have hput' : (Instr.mapUpdate 118 (.map (some w.heap.size)) (.string v) (.agg #[.int .i64 ((p : Int) + (m : Int)), .int .i64 ((q : Int) + 1)])).run Tryz.prog ((((wr.alloc (.cells #[.string v, .int .i64 (m : Int)] 125)).alloc (.cells #[.int .i64 ((p : Int) + (m : Int)), .int .i64 ((q : Int) + 1)] 121))).alloc (.cells #[.int .i64 0, .int .i64 0] 121)) = .ok () w5 := by
                  have h1 := hput
                  unfold farV at h1
                  rw [EC.out, EQ.out] at *
                  exact h1
                have hM5 := HMid.out.put HMem.out (fun d' hd' => by rw [hgv] at hd'; cases hd')
                have HM5 := Lib.hid hM5
                have hD5 := (hDW2.alloc (.cells #[.int .i64 0, .int .i64 0] 121)).grown hg5 (by simp)
                have hb5 := (hbW2.alloc (by simp; omega) (.cells #[.int .i64 0, .int .i64 0] 121)).grown hg5 (by simp; omega) (fun j hj => by injection hj with hj; omega)
                clear hput hM5 hOW2 hDW2 hbW2 hO hD hb hgv hg5
                go_wp2_with fail
                go_roundg ((stepsAt xs a).length - (i + 1))
                case measure => have := HN.out; omega
                case rel => exact ⟨i + 1, _, by go_num, by omega, hO5, hD5, hb5, HM5.out⟩
              | some old =>
                rw [hgv] at hl2
                simp only [Option.getD_some, Option.isSome_some] at hl2
                have hbW3 := hbW2.alloc (by simp; omega) (.cells #[.int .i64 (old.1 : Int), .int .i64 (old.2 : Int)] 121)
                have hOW3 := hOW2.alloc (.cells #[.int .i64 (old.1 : Int), .int .i64 (old.2 : Int)] 121)
                have hDW3 := hDW2.alloc (.cells #[.int .i64 (old.1 : Int), .int .i64 (old.2 : Int)] 121)
                cases hll : decide (lt (p + m, q + 1) old)
                · have HM5 := Lib.hid (HMid.out.keep hgv (of_decide_eq_false hll))
                  have HG := Lib.hid hgv
                  clear hgv hOW2 hDW2 hbW2 hO hD hb
                  go_wp2_with fail
                  rw [EC.out, EQ.out] at *
                  refine (less_any (p + m, q + 1) old _).mono ?_
                  rintro e w4 ⟨rfl, hb4⟩
                  rw [hll]
                  have hO5 := map_below hOW3 hb4 (Nat.le_refl _)
                  have hD5 := map_below hDW3 hb4 (Nat.le_refl _)
                  have hb5 := hbW3.trans (hb4.mono (by simp; omega))
                  clear hbW3 hOW3 hDW3 hb4 hl1 hl2
                  go_wp2_with fail
                  go_roundg ((stepsAt xs a).length - (i + 1))
                  case measure => have := HN.out; omega
                  case rel => exact ⟨i + 1, _, by go_num, by omega, hO5, hD5, hb5, HM5.out⟩
                · have HM5 := Lib.hid (HMid.out.put HMem.out (fun d' hd' => by rw [hgv] at hd'; injection hd' with hd'; subst hd'; exact of_decide_eq_true hll))
                  have HG := Lib.hid hgv
                  clear hgv hOW2 hDW2 hbW2 hO hD hb
                  go_wp2_with fail
                  rw [EC.out, EQ.out] at *
                  have hfr := three_boxes wr #[.string v, .int .i64 (m : Int)] #[.int .i64 ((p + m : Nat) : Int), .int .i64 ((q + 1 : Nat) : Int)] #[.int .i64 (old.1 : Int), .int .i64 (old.2 : Int)] 125 121 121
                  refine (less_any (p + m, q + 1) old _).mono ?_
                  rintro e w4 ⟨rfl, hb4⟩
                  rw [hll]
                  have hO5 := map_below hOW3 hb4 (Nat.le_refl _)
                  have hD5 := map_below hDW3 hb4 (Nat.le_refl _)
                  have hb5 := hbW3.trans (hb4.mono (by simp; omega))
                  have y0 : w4.cell? ⟨wr.heap.size, 0, none⟩ = some (.string v) := (hb4.cell (by simp; omega)).trans (hfr.1 0)
                  have y1 : w4.cell? ⟨wr.heap.size + 1, 0, none⟩ = some (.int .i64 ((p + m : Nat) : Int)) := (hb4.cell (by simp)).trans (hfr.2 0)
                  have y2 : w4.cell? ⟨wr.heap.size + 1, 1, none⟩ = some (.int .i64 ((q + 1 : Nat) : Int)) := (hb4.cell (by simp)).trans (hfr.2 1)
                  obtain ⟨w5, hput, hO6, hg5, _⟩ := run_put hO5 (P := Tryz.prog) Tryz.underlying118 Tryz.underlying9 v (p + m, q + 1)
                  have hput' : (Instr.mapUpdate 118 (.map (some w.heap.size)) (.string v) (.agg #[.int .i64 ((p : Int) + (m : Int)), .int .i64 ((q : Int) + 1)])).run Tryz.prog w4 = .ok () w5 := by
                    rw [show ((p : Int) + (m : Int)) = ((p + m : Nat) : Int) from by omega, show ((q : Int) + 1) = ((q + 1 : Nat) : Int) from by omega]
                    exact hput
                  clear hput
                  have hD6 := hD5.grown hg5 (by simp)
                  have hb6 := hb5.grown hg5 hb5.size (fun j hj => by injection hj with hj; omega)
                  clear hbW3 hOW3 hDW3 hb4 hl1 hl2 hfr hO5 hD5 hb5 hg5
                  go_wp2_with fail
                  go_roundg ((stepsAt xs a).length - (i + 1))
                  case measure => have := HN.out; omega
                  case rel => exact ⟨i + 1, _, by go_num, by omega, hO6, hD6, hb6, HM5.out⟩
            · have : i = (stepsAt xs a).length := by omega
              subst this
              rw [List.drop_length] at hM
              have HI2 := Lib.hid hM.over
              have hless := hM.less
              clear hM
              go_wp2_with fail
              go_roundg (undone xs f (a :: done))
              case measure => exact hless
              case rel => exact ⟨_, _, a :: done, hO, hD, HDN3.out, HI2.out, hb, rfl⟩
      · have hgu := get_of_mem HO.out hmem
        have HU := Lib.hid hgu
        have hne : w.heap.size + 1 ≠ wo.heap.size := by omega
        have hD3 : MapIs w3 (w.heap.size + 1) Value.bool dn := hD.grown hg3 (by simp; omega)
        have hb3 : Below w.heap.size w w3 := hb.grown hg3 hb.size (fun j hj => by injection hj with hj; omega)
        have hM3 := hIt'.map_
        have HP := Lib.hid hP
        have HIT := Lib.hid hIt'
        clear hgu hmem hIt hD hb hg3 hP hIt'
        have hlk := run_done (hD3.alloc (.cells #[.int .i64 (d.1 : Int), .int .i64 (d.2 : Int)] 121)) HDN.out u
        unfold farV at hrun hent
        cases hiu : isIn done u
        · cases found
          · rw [hiu] at hlk
            go_wp2_with fail
            go_roundg k'
            case measure => exact hlt
            case rel => exact ⟨u :: seen, u, true, rfl, rfl, iter_below HIT.out (below_alloc w3 _) (Nat.le_refl _), map_below hD3 (below_alloc w3 _) (Nat.le_refl _), hb3.alloc hb3.size _, HP.out.first (not_in hiu) HU.out⟩
          · rw [hiu] at hlk
            have hlf := run_far (hM3.alloc (.cells #[.int .i64 (d.1 : Int), .int .i64 (d.2 : Int)] 121)) a
            obtain ⟨da, hda⟩ := HP.out.known
            rw [hda, Option.getD_some] at hlf
            have HDA := Lib.hid hda
            clear hda
            unfold farV at hlf
            have hbx : Below w.heap.size w (w3.alloc (.cells #[.int .i64 (d.1 : Int), .int .i64 (d.2 : Int)] 121)) := hb3.alloc hb3.size _
            cases hll : decide (lt d da)
            · have HL := Lib.hid (of_decide_eq_false hll)
              go_wp2_with fail
              refine (less_any d da _).mono ?_
              rintro e w4 ⟨rfl, hb4⟩
              rw [hll]
              have hb5 := (below_alloc w3 (.cells #[.int .i64 (d.1 : Int), .int .i64 (d.2 : Int)] 121)).trans (hb4.mono (by simp))
              go_wp2_with fail
              go_roundg k'
              case measure => exact hlt
              case rel => exact ⟨u :: seen, a, true, rfl, rfl, iter_below HIT.out hb5 (Nat.le_refl _), map_below hD3 hb5 (Nat.le_refl _), hb3.trans (hb5.mono hb3.size), HP.out.worse HU.out HDA.out HL.out⟩
            · have HL := Lib.hid (of_decide_eq_true hll)
              go_wp2_with fail
              refine (less_any d da _).mono ?_
              rintro e w4 ⟨rfl, hb4⟩
              rw [hll]
              have hb5 := (below_alloc w3 (.cells #[.int .i64 (d.1 : Int), .int .i64 (d.2 : Int)] 121)).trans (hb4.mono (by simp))
              go_wp2_with fail
              go_roundg k'
              case measure => exact hlt
              case rel => exact ⟨u :: seen, u, true, rfl, rfl, iter_below HIT.out hb5 (Nat.le_refl _), map_below hD3 hb5 (Nat.le_refl _), hb3.trans (hb5.mono hb3.size), HP.out.better (not_in hiu) HU.out HDA.out HL.out⟩
        · rw [hiu] at hlk
          go_wp2_with fail
          go_roundg k'
          case measure => exact hlt
          case rel => exact ⟨u :: seen, a, found, rfl, rfl, iter_below HIT.out (below_alloc w3 _) (Nat.le_refl _), map_below hD3 (below_alloc w3 _) (Nat.le_refl _), hb3.alloc hb3.size _, HP.out.skip (isIn_iff.1 hiu)⟩
end Go.Proofs.YtkbbmlkgaooaiaaGreatDoor
