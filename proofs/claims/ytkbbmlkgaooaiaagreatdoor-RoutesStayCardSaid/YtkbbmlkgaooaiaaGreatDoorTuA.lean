/- The plain law of turns: who is the first router from moment to moment. No program in sight. The plain law of prefixes' groups. No program in sight. -/
import Derived.Test.YtkbbmlkgaooaiaaGreatDoorPaA
namespace Go.Hw

structure Hl where
  at_ : Int
  node : ByteArray
  up : Bool
structure Rt where
  six : Bool
  hi : Int
  lo : Int
  bits : Int
  node : ByteArray
  weight : Int
def noHl : Hl := ⟨0, ByteArray.empty, false⟩
def noRt : Rt := ⟨false, 0, 0, 0, ByteArray.empty, 0⟩

/-- Is a node up, by what is told up to moment t. -/
def upAt (l : List Hl) (n : ByteArray) (t : Int) : Bool := l.foldl (fun u h => if h.node = n ∧ h.at_ ≤ t then h.up else u) false
/-- The best of some routers: the first one of those with the greatest weight. -/
def scanP (up : ByteArray → Bool) (r : List Rt) : ByteArray × Int := r.foldl (fun s x => if up x.node = true ∧ s.2 < x.weight then (x.node, x.weight) else s) (ByteArray.empty, -1)
def nextP (up : ByteArray → Bool) (r : List Rt) (first : ByteArray) : ByteArray := if up first = true then first else (scanP up r).1
/-- The last turn is closed at t. -/
def closeP (out : List Tn) (t : Int) : List Tn :=
  match out.getLast? with
  | none => out
  | some y => out.dropLast ++ [{ y with to_ := t }]
def laidP (out : List Tn) (first next : ByteArray) (t : Int) : List Tn :=
  (if first.size ≠ 0 then closeP out t else out) ++ (if next.size ≠ 0 then [⟨next, t, endT⟩] else [])
def turnStep (r : List Rt) (l : List Hl) (s : ByteArray × List Tn) (t : Int) : ByteArray × List Tn :=
  if nextP (fun n => upAt l n t) r s.1 = s.1 then s else (nextP (fun n => upAt l n t) r s.1, laidP s.2 s.1 (nextP (fun n => upAt l n t) r s.1) t)
/-- Behind the first j of what is told. -/
def turnSt (r : List Rt) (l : List Hl) : Nat → ByteArray × List Tn
  | 0 => (ByteArray.empty, [])
  | j + 1 => if j + 1 < l.length ∧ (l.getD (j + 1) noHl).at_ = (l.getD j noHl).at_ then turnSt r l j else turnStep r l (turnSt r l j) (l.getD j noHl).at_
def turnsP (r : List Rt) (l : List Hl) : List Tn := (turnSt r l l.length).2
theorem turnSt_group (r : List Rt) (l : List Hl) (i : Nat) : ∀ d, (∀ j, i ≤ j → j < i + d → (l.getD (j + 1) noHl).at_ = (l.getD j noHl).at_) → i + d < l.length → turnSt r l (i + d) = turnSt r l i
  | 0, _, _ => rfl
  | d + 1, h, hl => by
    have ih := turnSt_group r l i d (fun j h1 h2 => h j h1 (by omega)) (by omega)
    show turnSt r l (i + d + 1) = _
    rw [turnSt, if_pos ⟨by omega, h (i + d) (by omega) (by omega)⟩, ih]
/-- A whole group has been looked at. -/
theorem turnSt_next (r : List Rt) (l : List Hl) (i k : Nat) (hik : i < k) (hk : k ≤ l.length) (hsame : ∀ j, i ≤ j → j + 1 < k → (l.getD (j + 1) noHl).at_ = (l.getD j noHl).at_) (hend : k = l.length ∨ (l.getD k noHl).at_ ≠ (l.getD (k - 1) noHl).at_) :
    turnSt r l k = turnStep r l (turnSt r l i) (l.getD (k - 1) noHl).at_ := by
  obtain ⟨d, rfl⟩ : ∃ d, k = i + d + 1 := ⟨k - 1 - i, by omega⟩
  have h1 := turnSt_group r l i d (fun j a b => hsame j a (by omega)) (by omega)
  rw [turnSt, if_neg, h1]
  · rfl
  · rintro ⟨a, b⟩
    rcases hend with h | h
    · omega
    · exact h b

/-! ### laws -/
theorem upAt_append (a b : List Hl) (n : ByteArray) (t : Int) (h : ∀ x ∈ b, t < x.at_) : upAt (a ++ b) n t = upAt a n t := by
  unfold upAt
  rw [List.foldl_append]
  generalize a.foldl _ false = u
  induction b generalizing u with
  | nil => rfl
  | cons x b ih =>
    rw [List.foldl_cons, if_neg (by have := h x (by simp); omega)]
    exact ih (fun y hy => h y (List.mem_cons_of_mem _ hy)) u
/-- All that is told lies behind each other. -/
def Rises (l : List Hl) : Prop := ∀ i, i + 1 < l.length → (l.getD i noHl).at_ ≤ (l.getD (i + 1) noHl).at_
theorem Rises.le {l : List Hl} (h : Rises l) {i : Nat} : ∀ d, i + d < l.length → (l.getD i noHl).at_ ≤ (l.getD (i + d) noHl).at_
  | 0, _ => Int.le_refl _
  | d + 1, hl => Int.le_trans (h.le d (by omega)) (h (i + d) (by omega))
theorem getD_drop_mem {l : List Hl} {i : Nat} {x : Hl} (h : x ∈ l.drop i) : ∃ j, i ≤ j ∧ j < l.length ∧ l.getD j noHl = x := by
  obtain ⟨k, hk, e⟩ := List.getElem_of_mem h
  simp at hk
  refine ⟨i + k, by omega, by omega, ?_⟩
  rw [List.getD_eq_getElem?_getD, List.getElem?_eq_getElem (by omega)]
  simpa using e
theorem upAt_take {l : List Hl} (h : Rises l) {i : Nat} (n : ByteArray) {t : Int} (hi : ∀ (_ : i < l.length), t < (l.getD i noHl).at_) : upAt l n t = upAt (l.take i) n t := by
  conv => lhs; rw [← List.take_append_drop i l]
  refine upAt_append _ _ _ _ fun x hx => ?_
  obtain ⟨j, h1, h2, rfl⟩ := getD_drop_mem hx
  have := hi (by omega)
  have h3 := h.le (i := i) (j - i) (by omega)
  rw [show i + (j - i) = j from by omega] at h3
  omega
/-- What holds of nodes without a name. -/
theorem upAt_empty {l : List Hl} {n : ByteArray} (h : ∀ x ∈ l, x.node ≠ n) (t : Int) : upAt l n t = false := by
  unfold upAt
  suffices ∀ u, l.foldl (fun u h => if h.node = n ∧ h.at_ ≤ t then h.up else u) u = u from this false
  induction l with
  | nil => intro u; rfl
  | cons x l ih =>
    intro u
    rw [List.foldl_cons, if_neg (fun e => h x (by simp) e.1)]
    exact ih (fun y hy => h y (List.mem_cons_of_mem _ hy)) u

theorem scan_spec (up : ByteArray → Bool) (r : List Rt) (hw : ∀ x ∈ r, 0 ≤ x.weight) : ((scanP up r).1 = ByteArray.empty ∧ (∀ x ∈ r, up x.node = false)) ∨ ∃ x ∈ r, (scanP up r).1 = x.node ∧ up x.node = true := by
  unfold scanP
  suffices ∀ s : ByteArray × Int, -1 ≤ s.2 → ((r.foldl (fun s x => if up x.node = true ∧ s.2 < x.weight then (x.node, x.weight) else s) s) = s ∧ (s.2 = -1 → ∀ x ∈ r, up x.node = false)) ∨ ∃ x ∈ r, (r.foldl (fun s x => if up x.node = true ∧ s.2 < x.weight then (x.node, x.weight) else s) s).1 = x.node ∧ up x.node = true by
    rcases this (ByteArray.empty, -1) (Int.le_refl _) with ⟨h1, h2⟩ | h
    · exact .inl ⟨by rw [h1], h2 rfl⟩
    · exact .inr h
  induction r with
  | nil => intro s _; exact .inl ⟨rfl, by simp⟩
  | cons x r ih =>
    intro s hs
    rw [List.foldl_cons]
    have hx := hw x (by simp)
    by_cases hc : up x.node = true ∧ s.2 < x.weight
    · rw [if_pos hc]
      rcases ih (fun y hy => hw y (List.mem_cons_of_mem _ hy)) (x.node, x.weight) (by simp only; omega) with ⟨h1, _⟩ | ⟨y, hy, h1, h2⟩
      · exact .inr ⟨x, by simp, by rw [h1], hc.1⟩
      · exact .inr ⟨y, List.mem_cons_of_mem _ hy, h1, h2⟩
    · rw [if_neg hc]
      rcases ih (fun y hy => hw y (List.mem_cons_of_mem _ hy)) s hs with ⟨h1, h2⟩ | ⟨y, hy, h1, h2⟩
      · refine .inl ⟨h1, fun e y hy => ?_⟩
        rcases List.mem_cons.1 hy with rfl | hy
        · cases hu : up y.node
          · rfl
          · exact absurd ⟨hu, by omega⟩ hc
        · exact h2 e y hy
      · exact .inr ⟨y, List.mem_cons_of_mem _ hy, h1, h2⟩

/-- Whose time a moment is in. -/
def whoP (l : List Tn) (t : Int) : ByteArray := match l.find? (fun y => decide (y.from_ ≤ t ∧ t < y.to_)) with | none => ByteArray.empty | some y => y.who

/-- What holds behind a group that ends at t. -/
structure TurnInv (first : ByteArray) (out : List Tn) (t : Int) : Prop where
  names : ∀ y ∈ out, y.who.size ≠ 0
  from_ : ∀ y ∈ out, y.from_ ≤ t ∧ y.from_ < y.to_ ∧ 0 ≤ y.from_
  apart : ∀ i y z, out[i]? = some y → out[i + 1]? = some z → y.to_ ≤ z.from_ ∧ (y.to_ = z.from_ → y.who ≠ z.who)
  open_ : (first = ByteArray.empty ∧ ∀ y ∈ out, y.to_ ≤ t) ∨ (first.size ≠ 0 ∧ ∃ l0 f, out = l0 ++ [⟨first, f, endT⟩] ∧ ∀ y ∈ l0, y.to_ ≤ t)

theorem TurnInv.begin : TurnInv ByteArray.empty [] (-1) := ⟨by simp, by simp, by simp, .inl ⟨rfl, by simp⟩⟩
theorem TurnInv.mono {first : ByteArray} {out : List Tn} {t t' : Int} (h : TurnInv first out t) (ht : t ≤ t') : TurnInv first out t' :=
  ⟨h.names, fun y hy => by have := h.from_ y hy; omega, h.apart, h.open_.imp (fun ⟨a, b⟩ => ⟨a, fun y hy => by have := b y hy; omega⟩) fun ⟨a, l0, f, e, b⟩ => ⟨a, l0, f, e, fun y hy => by have := b y hy; omega⟩⟩
theorem laid_none {out : List Tn} {next : ByteArray} {t : Int} : laidP out ByteArray.empty next t = out ++ (if next.size ≠ 0 then [⟨next, t, endT⟩] else []) := by
  unfold laidP
  rw [if_neg (by decide)]
theorem laid_some {l0 : List Tn} {first next : ByteArray} {f t : Int} (h : first.size ≠ 0) : laidP (l0 ++ [⟨first, f, endT⟩]) first next t = l0 ++ [⟨first, f, t⟩] ++ (if next.size ≠ 0 then [⟨next, t, endT⟩] else []) := by
  unfold laidP closeP
  rw [if_pos h]
  simp

theorem snoc_get {α : Type} {l : List α} {a : α} {i : Nat} {y : α} (h : (l ++ [a])[i]? = some y) : (i < l.length ∧ l[i]? = some y) ∨ (i = l.length ∧ y = a) := by
  rw [List.getElem?_append] at h
  split at h
  · exact .inl ⟨by assumption, h⟩
  · have h1 := (List.getElem?_eq_some_iff.1 h).1
    simp at h1
    have : i = l.length := by omega
    subst this
    simp at h
    exact .inr ⟨rfl, h.symm⟩

theorem TurnInv.step {first next : ByteArray} {out : List Tn} {t t' : Int} (h : TurnInv first out t) (ht : t < t') (h0 : 0 ≤ t') (he : t' < endT) (hn : next ≠ first) (hz : next.size = 0 → next = ByteArray.empty) : TurnInv next (laidP out first next t') t' := by
  obtain ⟨hnm, hf, ha, ho⟩ := h
  have hopen : ∀ l1 : List Tn, (∀ y ∈ l1, y.to_ ≤ t') → ((next = ByteArray.empty ∧ ∀ y ∈ l1 ++ (if next.size ≠ 0 then [(⟨next, t', endT⟩ : Tn)] else []), y.to_ ≤ t') ∨ (next.size ≠ 0 ∧ ∃ l0 f, l1 ++ (if next.size ≠ 0 then [(⟨next, t', endT⟩ : Tn)] else []) = l0 ++ [⟨next, f, endT⟩] ∧ ∀ y ∈ l0, y.to_ ≤ t')) := by
    intro l1 h1
    by_cases hs : next.size = 0
    · refine .inl ⟨hz hs, ?_⟩
      rw [if_neg (by simp [hs])]
      simpa using h1
    · refine .inr ⟨hs, l1, t', ?_, h1⟩
      rw [if_pos hs]
  have hadd : ∀ l1 : List Tn, (∀ y ∈ l1, y.who.size ≠ 0) → (∀ y ∈ l1, y.from_ ≤ t' ∧ y.from_ < y.to_ ∧ 0 ≤ y.from_) → (∀ y ∈ l1, y.to_ ≤ t') → (∀ i y z, l1[i]? = some y → l1[i + 1]? = some z → y.to_ ≤ z.from_ ∧ (y.to_ = z.from_ → y.who ≠ z.who)) →
      (∀ y, l1.getLast? = some y → y.to_ = t' → next.size ≠ 0 → y.who ≠ next) → TurnInv next (l1 ++ (if next.size ≠ 0 then [(⟨next, t', endT⟩ : Tn)] else [])) t' := by
    intro l1 a1 a2 a3 a4 a5
    refine ⟨?_, ?_, ?_, hopen l1 a3⟩
    · intro y hy
      rcases List.mem_append.1 hy with hy | hy
      · exact a1 y hy
      · split at hy
        · rename_i hs
          simp at hy; subst hy; exact hs
        · simp at hy
    · intro y hy
      rcases List.mem_append.1 hy with hy | hy
      · exact a2 y hy
      · split at hy
        · simp at hy; subst hy; simp only; omega
        · simp at hy
    · intro i y z hy hz
      by_cases hs : next.size = 0
      · rw [if_neg (by simp [hs]), List.append_nil] at hy hz
        exact a4 i y z hy hz
      · rw [if_pos hs] at hy hz
        rcases snoc_get hz with ⟨hi, hz⟩ | ⟨hi, rfl⟩
        · rcases snoc_get hy with ⟨_, hy⟩ | ⟨h1, _⟩
          · exact a4 i y z hy hz
          · omega
        · rcases snoc_get hy with ⟨_, hy⟩ | ⟨h1, _⟩
          · have hl : l1.getLast? = some y := by rw [List.getLast?_eq_getElem?, show l1.length - 1 = i from by omega]; exact hy
            exact ⟨a3 y (List.mem_of_getElem? hy), fun e => a5 y hl e hs⟩
          · omega
  rcases ho with ⟨rfl, hto⟩ | ⟨hfs, l0, f, rfl, hto⟩
  · rw [laid_none]
    exact hadd out hnm (fun y hy => by have := hf y hy; omega) (fun y hy => by have := hto y hy; omega) ha (fun y hy e => by have := hto y (List.mem_of_getLast? hy); omega)
  · rw [laid_some hfs]
    have hff := hf ⟨first, f, endT⟩ (by simp)
    simp only at hff
    refine hadd _ ?_ ?_ ?_ ?_ ?_
    · intro y hy
      rcases List.mem_append.1 hy with hy | hy
      · exact hnm y (List.mem_append_left _ hy)
      · simp at hy; subst hy; exact hfs
    · intro y hy
      rcases List.mem_append.1 hy with hy | hy
      · have := hf y (List.mem_append_left _ hy); omega
      · simp at hy; subst hy; simp only; omega
    · intro y hy
      rcases List.mem_append.1 hy with hy | hy
      · have := hto y hy; omega
      · simp at hy; subst hy; simp
    · intro i y z hy hz
      rcases snoc_get hz with ⟨hi, hz⟩ | ⟨hi, rfl⟩
      · rcases snoc_get hy with ⟨h1, hy⟩ | ⟨h1, _⟩
        · exact ha i y z (by rw [List.getElem?_append_left h1]; exact hy) (by rw [List.getElem?_append_left hi]; exact hz)
        · omega
      · rcases snoc_get hy with ⟨h1, hy⟩ | ⟨h1, _⟩
        · exact ha i y ⟨first, f, endT⟩ (by rw [List.getElem?_append_left h1]; exact hy) (by rw [hi]; simp)
        · omega
    · intro y hy _ _
      simp at hy
      subst hy
      exact Ne.symm hn

/-- Whose time it is, before and behind the moment of a step. -/
theorem who_find {l : List Tn} {t : Int} {x : Tn} (h : x ∈ l) (hx : x.from_ ≤ t ∧ t < x.to_) (ho : ∀ y ∈ l, y.from_ ≤ t ∧ t < y.to_ → y.who = x.who) : whoP l t = x.who := by
  unfold whoP
  cases hf : l.find? (fun y => decide (y.from_ ≤ t ∧ t < y.to_)) with
  | none =>
    have := List.find?_eq_none.1 hf x h
    simp at this
    omega
  | some y =>
    have h1 := List.find?_some hf
    have h2 := List.mem_of_find?_eq_some hf
    simp at h1
    exact ho y h2 h1
theorem who_none {l : List Tn} {t : Int} (h : ∀ y ∈ l, ¬ (y.from_ ≤ t ∧ t < y.to_)) : whoP l t = ByteArray.empty := by
  unfold whoP
  rw [List.find?_eq_none.2 (fun y hy => by simpa using fun a => by have := h y hy; omega)]
/-- From the last moment on it is the first one's time. -/
theorem TurnInv.now {first : ByteArray} {out : List Tn} {t s : Int} (h : TurnInv first out t) (hs : t ≤ s) (he : s < endT) : whoP out s = first := by
  obtain ⟨_, hf, _, ho⟩ := h
  rcases ho with ⟨rfl, hto⟩ | ⟨_, l0, f, rfl, hto⟩
  · exact who_none fun y hy => by have := hto y hy; omega
  · have hff := (hf ⟨first, f, endT⟩ (by simp)).1
    simp only at hff
    refine who_find (x := ⟨first, f, endT⟩) (by simp) ⟨by simp only; omega, he⟩ fun y hy hyt => ?_
    rcases List.mem_append.1 hy with hy | hy
    · have := hto y hy; omega
    · simp at hy; subst hy; rfl
theorem whoP_append (a b : List Tn) (t : Int) (h : ∀ y ∈ b, t < y.from_) : whoP (a ++ b) t = whoP a t := by
  unfold whoP
  have hb : b.find? (fun y => decide (y.from_ ≤ t ∧ t < y.to_)) = none := List.find?_eq_none.2 fun y hy => by have := h y hy; simp; omega
  rw [List.find?_append, hb, Option.or_none]
theorem TurnInv.past {first next : ByteArray} {out : List Tn} {t t' s : Int} (h : TurnInv first out t) (he : t' < endT) (hs : s < t') : whoP (laidP out first next t') s = whoP out s := by
  obtain ⟨_, hf, _, ho⟩ := h
  have hb : ∀ l1 : List Tn, whoP (l1 ++ (if next.size ≠ 0 then [(⟨next, t', endT⟩ : Tn)] else [])) s = whoP l1 s := fun l1 => whoP_append _ _ _ fun y hy => by
    split at hy
    · simp at hy; subst hy; simpa using hs
    · simp at hy
  rcases ho with ⟨rfl, hto⟩ | ⟨hfs, l0, f, rfl, hto⟩
  · rw [laid_none, hb]
  · rw [laid_some hfs, hb]
    unfold whoP
    rw [List.find?_append, List.find?_append]
    cases hq : l0.find? (fun y => decide (y.from_ ≤ s ∧ s < y.to_)) with
    | some y => rfl
    | none =>
      simp only [Option.none_or, List.find?_cons, List.find?_nil]
      have e1 : decide (f ≤ s ∧ s < endT) = decide (f ≤ s ∧ s < t') := by
        by_cases h1 : f ≤ s
        · rw [decide_eq_true ⟨h1, by omega⟩, decide_eq_true ⟨h1, hs⟩]
        · rw [decide_eq_false (by omega), decide_eq_false (by omega)]
      simp only [e1]
      cases decide (f ≤ s ∧ s < t') <;> rfl

/-- The moments are right, the nodes have names, and weights are not below 0. -/
structure HlFine (l : List Hl) : Prop where
  rises : Rises l
  time : ∀ x ∈ l, 0 ≤ x.at_ ∧ x.at_ < endT
  named : ∀ x ∈ l, x.node.size ≠ 0
structure RtFine (r : List Rt) : Prop where
  named : ∀ x ∈ r, x.node.size ≠ 0
  weight : ∀ x ∈ r, 0 ≤ x.weight
theorem mem_getD {l : List Hl} {i : Nat} (h : i < l.length) : l.getD i noHl ∈ l := by
  rw [List.getD_eq_getElem?_getD, List.getElem?_eq_getElem h]
  exact List.getElem_mem h

/-- The moment behind the first j of what is told. -/
def timeOf (l : List Hl) (j : Nat) : Int := if j = 0 then -1 else (l.getD (j - 1) noHl).at_
def Edge (l : List Hl) (j : Nat) : Prop := j = 0 ∨ j = l.length ∨ (l.getD (j - 1) noHl).at_ < (l.getD j noHl).at_
theorem next_spec {r : List Rt} (hr : RtFine r) (up : ByteArray → Bool) (first : ByteArray) :
    (nextP up r first = ByteArray.empty ∧ ∀ x ∈ r, up x.node = false) ∨ (up (nextP up r first) = true) := by
  unfold nextP
  by_cases h : up first = true
  · rw [if_pos h]; exact .inr h
  · rw [if_neg h]
    rcases scan_spec up r hr.weight with h1 | ⟨x, _, h1, h2⟩
    · exact .inl h1
    · exact .inr (by rw [h1]; exact h2)
theorem next_named {r : List Rt} (hr : RtFine r) (up : ByteArray → Bool) (first : ByteArray) (h0 : first.size = 0 → first = ByteArray.empty) : (nextP up r first).size = 0 → nextP up r first = ByteArray.empty := by
  unfold nextP
  split
  · exact h0
  · rcases scan_spec up r hr.weight with h1 | ⟨x, hx, h1, _⟩
    · intro _; exact h1.1
    · rw [h1]; intro e; exact absurd e (hr.named x hx)

/-- All groups up to the one that ends at index j. -/
structure Behind (r : List Rt) (l : List Hl) (j : Nat) : Prop where
  inv : TurnInv (turnSt r l j).1 (turnSt r l j).2 (timeOf l j)
  up : (turnSt r l j).1.size ≠ 0 → upAt l (turnSt r l j).1 (timeOf l j) = true
  none : (turnSt r l j).1 = ByteArray.empty → ∀ x ∈ r, upAt l x.node (timeOf l j) = false
  past : ∀ i, i ≤ j → Edge l i → ∀ s, s < endT → (∀ (_ : i < l.length), s < (l.getD i noHl).at_) → timeOf l i ≤ s → whoP (turnSt r l j).2 s = (turnSt r l i).1
  many : (turnSt r l j).2.length ≤ j

theorem upAt_early {l : List Hl} {n : ByteArray} {t : Int} (h : ∀ x ∈ l, t < x.at_) : upAt l n t = false := by
  have := upAt_append [] l n t h
  rw [List.nil_append] at this
  rw [this]; rfl
theorem Behind.begin {r : List Rt} {l : List Hl} (hl : HlFine l) : Behind r l 0 where
  inv := TurnInv.begin
  up := fun h => absurd rfl h
  none := fun _ x _ => upAt_early fun y hy => by
    have := (hl.time y hy).1
    simp only [timeOf, if_true]
    omega
  past := by
    intro i hi _ s hs h1 h2
    have : i = 0 := by omega
    subst this
    rfl
  many := Nat.le_refl _

theorem laid_length {out : List Tn} {first next : ByteArray} {t : Int} : (laidP out first next t).length ≤ out.length + 1 := by
  have h1 : (if first.size ≠ 0 then closeP out t else out).length ≤ out.length := by
    split
    · unfold closeP
      split
      · exact Nat.le_refl _
      · rename_i y hy
        have : out ≠ [] := by rintro rfl; simp at hy
        have := List.length_pos_iff.2 this
        simp
        omega
    · exact Nat.le_refl _
  have h2 : (if next.size ≠ 0 then [(⟨next, t, endT⟩ : Tn)] else []).length ≤ 1 := by split <;> simp
  unfold laidP
  rw [List.length_append]
  omega

theorem Behind.step {r : List Rt} {l : List Hl} (hr : RtFine r) (hl : HlFine l) {i k : Nat} (B : Behind r l i) (he : Edge l i) (hik : i < k) (hk : k ≤ l.length) (hsame : ∀ j, i ≤ j → j + 1 < k → (l.getD (j + 1) noHl).at_ = (l.getD j noHl).at_)
    (hend : k = l.length ∨ (l.getD k noHl).at_ ≠ (l.getD (k - 1) noHl).at_) : Behind r l k := by
  have hst := turnSt_next r l i k hik hk hsame hend
  have htk : timeOf l k = (l.getD (k - 1) noHl).at_ := by unfold timeOf; rw [if_neg (by omega)]
  have hk1 := hl.time _ (mem_getD (l := l) (i := k - 1) (by omega))
  have hmono : (l.getD i noHl).at_ ≤ (l.getD (k - 1) noHl).at_ := by
    have := hl.rises.le (i := i) (k - 1 - i) (by omega)
    rwa [show i + (k - 1 - i) = k - 1 from by omega] at this
  have hti : timeOf l i < (l.getD i noHl).at_ := by
    rcases he with rfl | h | h
    · have := (hl.time _ (mem_getD (l := l) (i := 0) (by omega))).1
      simp only [timeOf, if_true]; omega
    · omega
    · unfold timeOf
      split
      · rename_i h0; subst h0
        have := (hl.time _ (mem_getD (l := l) (i := 0) (by omega))).1
        omega
      · exact h
  have hlt : timeOf l i < timeOf l k := by omega
  have hup0 : upAt l ByteArray.empty (timeOf l k) = false := upAt_empty (fun x hx e => hl.named x hx (by rw [e]; rfl)) _
  rw [← htk] at hst
  have hfe : (turnSt r l i).1.size = 0 → (turnSt r l i).1 = ByteArray.empty := fun h => by
    rcases B.inv.open_ with ⟨e, _⟩ | ⟨e, _⟩
    · exact e
    · exact absurd h e
  have hnext := next_spec hr (fun n => upAt l n (timeOf l k)) (turnSt r l i).1
  have hnm := next_named hr (fun n => upAt l n (timeOf l k)) (turnSt r l i).1 hfe
  have hone : (turnSt r l k).1 = nextP (fun n => upAt l n (timeOf l k)) r (turnSt r l i).1 := by
    rw [hst]; unfold turnStep
    split
    · rename_i h; exact h.symm
    · rfl
  have hinv : TurnInv (turnSt r l k).1 (turnSt r l k).2 (timeOf l k) := by
    rw [hst]; unfold turnStep
    split
    · exact B.inv.mono (by omega)
    · rename_i h
      exact B.inv.step hlt (by omega) (by omega) h hnm
  refine ⟨hinv, ?_, ?_, ?_, ?_⟩
  · rw [hone]
    intro h
    rcases hnext with ⟨e, _⟩ | e
    · rw [e] at h; exact absurd rfl h
    · exact e
  · rw [hone]
    intro h x hx
    rcases hnext with ⟨_, e⟩ | e
    · exact e x hx
    · rw [h] at e
      rw [hup0] at e; cases e
  · intro m hm hem s hs h1 h2
    by_cases hmk : m = k
    · subst hmk
      exact hinv.now h2 hs
    · have hmi : m ≤ i := by
        rcases hem with h | h | h
        · omega
        · omega
        · by_cases h3 : m ≤ i
          · exact h3
          · have h4 := hsame (m - 1) (by omega) (by omega)
            rw [show m - 1 + 1 = m from by omega] at h4
            omega
      have hsk : s < timeOf l k := by
        have h3 := h1 (by omega)
        have h4 := hl.rises.le (i := m) (k - 1 - m) (by omega)
        rw [show m + (k - 1 - m) = k - 1 from by omega] at h4
        omega
      have hp := B.past m hmi hem s hs h1 h2
      rw [← hp, hst]
      unfold turnStep
      split
      · rfl
      · exact B.inv.past (by omega) hsk
  · rw [hst]; unfold turnStep
    have := B.many
    split
    · omega
    · have := laid_length (out := (turnSt r l i).2) (first := (turnSt r l i).1) (next := nextP (fun n => upAt l n (timeOf l k)) r (turnSt r l i).1) (t := timeOf l k)
      simp only
      omega

/-- The end of the group in which i lies. -/
theorem group_end (l : List Hl) : ∀ d i, l.length - i = d → i < l.length → ∃ k, i < k ∧ k ≤ l.length ∧ (∀ j, i ≤ j → j + 1 < k → (l.getD (j + 1) noHl).at_ = (l.getD j noHl).at_) ∧ (k = l.length ∨ (l.getD k noHl).at_ ≠ (l.getD (k - 1) noHl).at_)
  | 0, i, hd, hi => by omega
  | d + 1, i, hd, hi => by
    by_cases h : i + 1 = l.length
    · exact ⟨i + 1, by omega, by omega, fun j a b => by omega, .inl h⟩
    · by_cases hs : (l.getD (i + 1) noHl).at_ = (l.getD i noHl).at_
      · obtain ⟨k, h1, h2, h3, h4⟩ := group_end l d (i + 1) (by omega) (by omega)
        refine ⟨k, by omega, h2, fun j a b => ?_, h4⟩
        by_cases e : j = i
        · subst e; exact hs
        · exact h3 j (by omega) b
      · exact ⟨i + 1, by omega, by omega, fun j a b => by omega, .inr hs⟩
theorem edge_end {l : List Hl} (hl : Rises l) {i k : Nat} (h1 : i < k) (h2 : k ≤ l.length) (h4 : k = l.length ∨ (l.getD k noHl).at_ ≠ (l.getD (k - 1) noHl).at_) : Edge l k := by
  rcases h4 with h | h
  · exact .inr (.inl h)
  · by_cases e : k = l.length
    · exact .inr (.inl e)
    · have := hl (k - 1) (by omega)
      rw [show k - 1 + 1 = k from by omega] at this
      exact .inr (.inr (by omega))
theorem behind_all {r : List Rt} {l : List Hl} (hr : RtFine r) (hl : HlFine l) : ∀ d i, l.length - i = d → i ≤ l.length → Edge l i → Behind r l i → Behind r l l.length
  | d, i, hd, hi, he, hB => by
    by_cases h : i = l.length
    · subst h; exact hB
    · obtain ⟨k, h1, h2, h3, h4⟩ := group_end l (l.length - i) i rfl (by omega)
      exact behind_all hr hl (l.length - k) k rfl h2 (edge_end hl.rises h1 h2 h4) (hB.step hr hl he h1 h2 h3 h4)
  termination_by d => d
  decreasing_by omega
theorem behind_any {r : List Rt} {l : List Hl} (hr : RtFine r) (hl : HlFine l) : ∀ n i, i ≤ n → i ≤ l.length → Edge l i → Behind r l i
  | 0, i, hn, hi, he => by
    have : i = 0 := by omega
    subst this
    exact Behind.begin hl
  | n + 1, i, hn, hi, he => by
    by_cases h0 : i = 0
    · subst h0; exact Behind.begin hl
    · -- the group that ends at i
      have : ∃ m, m < i ∧ Edge l m ∧ ∀ j, m ≤ j → j + 1 < i → (l.getD (j + 1) noHl).at_ = (l.getD j noHl).at_ := by
        have go : ∀ d m, m + d + 1 = i → (∀ j, m ≤ j → j + 1 < i → (l.getD (j + 1) noHl).at_ = (l.getD j noHl).at_) → ∃ m, m < i ∧ Edge l m ∧ ∀ j, m ≤ j → j + 1 < i → (l.getD (j + 1) noHl).at_ = (l.getD j noHl).at_ := by
          intro d
          exact fun m => by
            induction m generalizing d with
            | zero => exact fun h1 h2 => ⟨0, by omega, .inl rfl, h2⟩
            | succ m ih =>
              intro h1 h2
              by_cases hs : (l.getD (m + 1) noHl).at_ = (l.getD m noHl).at_
              · exact ih (d + 1) (by omega) fun j a b => by
                  by_cases e : j = m
                  · subst e; exact hs
                  · exact h2 j (by omega) b
              · have := hl.rises m (by omega)
                exact ⟨m + 1, by omega, .inr (.inr (by rw [show m + 1 - 1 = m from by omega]; omega)), h2⟩
        exact go 0 (i - 1) (by omega) fun j a b => by omega
      obtain ⟨m, h1, h2, h3⟩ := this
      have hB := behind_any hr hl n m (by omega) (by omega) h2
      refine hB.step hr hl h2 h1 hi h3 ?_
      rcases he with h | h | h
      · omega
      · exact .inl h
      · exact .inr (by omega)
/-- The edge at which a moment lies. -/
theorem edge_at {l : List Hl} (hl : HlFine l) (s : Int) : ∃ i, i ≤ l.length ∧ Edge l i ∧ (∀ (_ : i < l.length), s < (l.getD i noHl).at_) ∧ (0 ≤ s → timeOf l i ≤ s) := by
  have : ∀ d i, l.length - i = d → i ≤ l.length → Edge l i → (0 ≤ s → timeOf l i ≤ s) → ∃ i, i ≤ l.length ∧ Edge l i ∧ (∀ (_ : i < l.length), s < (l.getD i noHl).at_) ∧ (0 ≤ s → timeOf l i ≤ s) := by
    intro d
    induction d using Nat.strongRecOn with
    | _ d ih =>
      intro i hd hi he ht
      by_cases h : i < l.length
      · by_cases hs : s < (l.getD i noHl).at_
        · exact ⟨i, hi, he, fun _ => hs, ht⟩
        · obtain ⟨k, h1, h2, h3, h4⟩ := group_end l (l.length - i) i rfl h
          have hk : ∀ e, i + e < k → (l.getD (i + e) noHl).at_ = (l.getD i noHl).at_ := by
            intro e
            induction e with
            | zero => intro _; rfl
            | succ e ihe => intro he; rw [← ihe (by omega)]; exact h3 (i + e) (by omega) (by omega)
          refine ih (l.length - k) (by omega) k rfl h2 (edge_end hl.rises h1 h2 h4) fun _ => ?_
          unfold timeOf
          rw [if_neg (by omega)]
          have := hk (k - 1 - i) (by omega)
          rw [show i + (k - 1 - i) = k - 1 from by omega] at this
          omega
      · exact ⟨i, hi, he, fun h' => absurd h' h, ht⟩
  exact this l.length 0 rfl (by omega) (.inl rfl) (fun h => by simp only [timeOf, if_true]; omega)
theorem upAt_same {l : List Hl} (hl : HlFine l) {i : Nat} (n : ByteArray) {s t : Int} (hs : ∀ (_ : i < l.length), s < (l.getD i noHl).at_) (ht : ∀ (_ : i < l.length), t < (l.getD i noHl).at_) (hls : ∀ (_ : 0 < i), timeOf l i ≤ s) (hlt : ∀ (_ : 0 < i), timeOf l i ≤ t) (hi : i ≤ l.length) : upAt l n s = upAt l n t := by
  rw [upAt_take hl.rises n hs, upAt_take hl.rises n ht]
  have hall : ∀ x ∈ l.take i, x.at_ ≤ s ∧ x.at_ ≤ t := by
    intro x hx
    obtain ⟨j, hj, e⟩ := List.getElem_of_mem hx
    simp at hj
    have h1 := hl.rises.le (i := j) (i - 1 - j) (by omega)
    rw [show j + (i - 1 - j) = i - 1 from by omega] at h1
    have h2 := hls (by omega)
    have h3 := hlt (by omega)
    unfold timeOf at h2 h3
    rw [if_neg (by omega)] at h2 h3
    have h4 : l.getD j noHl = x := by
      rw [List.getD_eq_getElem?_getD, List.getElem?_eq_getElem (by omega)]
      simpa using e
    rw [h4] at h1
    omega
  unfold upAt
  generalize false = u
  revert u
  generalize l.take i = m at hall
  induction m with
  | nil => intro u; rfl
  | cons x m ih =>
    intro u
    have hx := hall x (by simp)
    rw [List.foldl_cons, List.foldl_cons]
    have e : (if x.node = n ∧ x.at_ ≤ s then x.up else u) = (if x.node = n ∧ x.at_ ≤ t then x.up else u) := by simp [hx.1, hx.2]
    rw [e]
    exact ih (fun y hy => hall y (List.mem_cons_of_mem _ hy)) _

/-- Row 5 and row 7: what turns are. -/
theorem turns_up {r : List Rt} {l : List Hl} (hr : RtFine r) (hl : HlFine l) {s : Int} (h0 : 0 ≤ s) (h1 : s < endT) : (whoP (turnsP r l) s = ByteArray.empty ∧ ∀ x ∈ r, upAt l x.node s = false) ∨ ((whoP (turnsP r l) s).size ≠ 0 ∧ upAt l (whoP (turnsP r l) s) s = true) := by
  obtain ⟨i, hi, he, hlt, hge⟩ := edge_at hl s
  have B := behind_any hr hl i i (Nat.le_refl _) hi he
  have BA := behind_any hr hl l.length l.length (Nat.le_refl _) (Nat.le_refl _) (.inr (.inl rfl))
  have hw := BA.past i hi he s h1 hlt (hge h0)
  have hti : ∀ (_ : i < l.length), timeOf l i < (l.getD i noHl).at_ := fun h => by have := hlt h; have := hge h0; omega
  have hsame : ∀ n, upAt l n s = upAt l n (timeOf l i) := fun n => upAt_same hl n hlt hti (fun _ => hge h0) (fun _ => Int.le_refl _) hi
  unfold turnsP
  rw [hw]
  rcases B.inv.open_ with ⟨e, _⟩ | ⟨e, _⟩
  · left
    exact ⟨e, fun x hx => by rw [hsame]; exact B.none e x hx⟩
  · right
    exact ⟨e, by rw [hsame]; exact B.up e⟩
/-- The first one stays as long as it is up. -/
theorem turns_stay {r : List Rt} {l : List Hl} (hr : RtFine r) (hl : HlFine l) {s : Int} (h0 : 0 ≤ s) (h1 : s + 1 < endT) (hup : upAt l (whoP (turnsP r l) s) (s + 1) = true) : whoP (turnsP r l) (s + 1) = whoP (turnsP r l) s := by
  obtain ⟨i, hi, he, hlt, hge⟩ := edge_at hl s
  have BA := behind_any hr hl l.length l.length (Nat.le_refl _) (Nat.le_refl _) (.inr (.inl rfl))
  have hw := BA.past i hi he s (by omega) hlt (hge h0)
  by_cases hnext : i < l.length ∧ (l.getD i noHl).at_ = s + 1
  · obtain ⟨hil, hat⟩ := hnext
    obtain ⟨k, k1, k2, k3, k4⟩ := group_end l (l.length - i) i rfl hil
    have hek := edge_end hl.rises k1 k2 k4
    have hk : ∀ e, i + e < k → (l.getD (i + e) noHl).at_ = (l.getD i noHl).at_ := by
      intro e
      induction e with
      | zero => intro _; rfl
      | succ e ihe => intro he; rw [← ihe (by omega)]; exact k3 (i + e) (by omega) (by omega)
    have htk : timeOf l k = s + 1 := by
      unfold timeOf
      rw [if_neg (by omega)]
      have := hk (k - 1 - i) (by omega)
      rw [show i + (k - 1 - i) = k - 1 from by omega] at this
      omega
    have hltk : ∀ (_ : k < l.length), s + 1 < (l.getD k noHl).at_ := fun h => by
      rcases hek with e | e | e
      · omega
      · omega
      · unfold timeOf at htk
        rw [if_neg (by omega)] at htk
        omega
    have hwk := BA.past k k2 hek (s + 1) h1 hltk (by omega)
    have hst := turnSt_next r l i k k1 k2 k3 k4
    have htk' : (l.getD (k - 1) noHl).at_ = s + 1 := by
      unfold timeOf at htk
      rwa [if_neg (by omega)] at htk
    rw [htk'] at hst
    unfold turnsP at hup ⊢
    rw [hw] at hup ⊢
    rw [hwk, hst]
    have hnx : nextP (fun n => upAt l n (s + 1)) r (turnSt r l i).1 = (turnSt r l i).1 := by
      unfold nextP
      rw [if_pos hup]
    unfold turnStep
    rw [if_pos hnx]
  · have hlt' : ∀ (_ : i < l.length), s + 1 < (l.getD i noHl).at_ := fun h => by
      have := hlt h
      by_cases e : (l.getD i noHl).at_ = s + 1
      · exact absurd ⟨h, e⟩ hnext
      · omega
    have hw' := BA.past i hi he (s + 1) h1 hlt' (by have := hge h0; omega)
    unfold turnsP
    rw [hw, hw']
end Go.Hw

namespace Go.Hw

structure Pf where
  six : Bool
  hi : Int
  lo : Int
  bits : Int
deriving DecidableEq
def Rt.pf (x : Rt) : Pf := ⟨x.six, x.hi, x.lo, x.bits⟩
/-- The order of prefixes, as one number. -/
def Pf.key (p : Pf) : Int := (((if p.six then 1 else 0) * 18446744073709551616 + p.hi) * 18446744073709551616 + p.lo) * 1024 + p.bits
structure Pf.Fine (p : Pf) : Prop where
  hi : 0 ≤ p.hi ∧ p.hi < 18446744073709551616
  lo : 0 ≤ p.lo ∧ p.lo < 18446744073709551616
  bits : 0 ≤ p.bits ∧ p.bits ≤ 128
theorem Pf.key_inj {p q : Pf} (hp : p.Fine) (hq : q.Fine) (h : p.key = q.key) : p = q := by
  obtain ⟨⟨h1, h2⟩, ⟨h3, h4⟩, h5, h6⟩ := hp
  obtain ⟨⟨k1, k2⟩, ⟨k3, k4⟩, k5, k6⟩ := hq
  obtain ⟨s, a, b, c⟩ := p
  obtain ⟨s', a', b', c'⟩ := q
  simp only [Pf.key] at *
  have e : s = s' ∧ a = a' ∧ b = b' ∧ c = c' := by
    cases s <;> cases s' <;> simp at h ⊢ <;> omega
  obtain ⟨rfl, rfl, rfl, rfl⟩ := e
  rfl

structure Gp where
  pf : Pf
  list : List Rt
def noGp : Gp := ⟨⟨false, 0, 0, 0⟩, []⟩
def groupStep (g : List Gp) (x : Rt) : List Gp :=
  match g.getLast? with
  | none => [⟨x.pf, [x]⟩]
  | some q => if q.pf = x.pf then g.dropLast ++ [⟨q.pf, q.list ++ [x]⟩] else g ++ [⟨x.pf, [x]⟩]
def groupsP (r : List Rt) : List Gp := r.foldl groupStep []
theorem groups_take (r : List Rt) (k : Nat) (h : k < r.length) : groupsP (r.take (k + 1)) = groupStep (groupsP (r.take k)) (r.getD k noRt) := by
  unfold groupsP
  rw [List.take_succ_eq_append_getElem h, List.foldl_append, List.getD_eq_getElem?_getD, List.getElem?_eq_getElem h]
  rfl
theorem group_new {g : List Gp} {x : Rt} (h : ∀ q, g.getLast? = some q → q.pf ≠ x.pf) : groupStep g x = g ++ [⟨x.pf, [x]⟩] := by
  unfold groupStep
  cases hg : g.getLast? with
  | none => rw [List.getLast?_eq_none_iff.1 hg]; rfl
  | some q => simp only; rw [if_neg (h q hg)]
theorem group_old {g : List Gp} {q : Gp} {x : Rt} (h : q.pf = x.pf) : groupStep (g ++ [q]) x = g ++ [⟨q.pf, q.list ++ [x]⟩] := by
  unfold groupStep
  simp [h]

/-- The routers are in order. -/
def InOrder (r : List Rt) : Prop := ∀ i, i + 1 < r.length → (r.getD i noRt).pf.key ≤ (r.getD (i + 1) noRt).pf.key
/-- What groups are. -/
structure Grouped (r : List Rt) (g : List Gp) : Prop where
  all : ∀ y ∈ r, ∃ q ∈ g, q.pf = y.pf ∧ y ∈ q.list
  own : ∀ q ∈ g, ∀ y ∈ q.list, y ∈ r
  some_ : ∀ q ∈ g, ∃ y ∈ r, y.pf = q.pf
  many : g.length ≤ r.length
  long : ∀ q ∈ g, q.list.length ≤ r.length
theorem grouped_step {r : List Rt} {g : List Gp} (h : Grouped r g) (x : Rt) : Grouped (r ++ [x]) (groupStep g x) := by
  have hnew : (∀ q, g.getLast? = some q → q.pf ≠ x.pf) → Grouped (r ++ [x]) (groupStep g x) := fun hn => by
    rw [group_new hn]
    refine ⟨fun y hy => ?_, fun q hq y hy => ?_, fun q hq => ?_, by have := h.many; simp; omega, fun q hq => ?_⟩
    · rcases List.mem_append.1 hy with hy | hy
      · obtain ⟨q, hq, e⟩ := h.all y hy
        exact ⟨q, List.mem_append_left _ hq, e⟩
      · simp at hy; subst hy
        exact ⟨⟨y.pf, [y]⟩, by simp, rfl, by simp⟩
    · rcases List.mem_append.1 hq with hq | hq
      · exact List.mem_append_left _ (h.own q hq y hy)
      · simp at hq; subst hq
        simp at hy; subst hy; simp
    · rcases List.mem_append.1 hq with hq | hq
      · obtain ⟨y, hy, e⟩ := h.some_ q hq
        exact ⟨y, List.mem_append_left _ hy, e⟩
      · simp at hq; subst hq
        exact ⟨x, by simp, rfl⟩
    · rcases List.mem_append.1 hq with hq | hq
      · have := h.long q hq; simp; omega
      · simp at hq; subst hq; simp
  cases hl : g.getLast? with
  | none => exact hnew (fun q hq => by rw [hl] at hq; cases hq)
  | some q0 =>
    by_cases he : q0.pf = x.pf
    · obtain ⟨g0, rfl⟩ := List.getLast?_eq_some_iff.1 hl
      rw [group_old he]
      refine ⟨fun y hy => ?_, fun q hq y hy => ?_, fun q hq => ?_, by have := h.many; simp at this ⊢; omega, fun q hq => ?_⟩
      · rcases List.mem_append.1 hy with hy | hy
        · obtain ⟨q, hq, e1, e2⟩ := h.all y hy
          rcases List.mem_append.1 hq with hq | hq
          · exact ⟨q, List.mem_append_left _ hq, e1, e2⟩
          · simp at hq; subst hq
            exact ⟨⟨q.pf, q.list ++ [x]⟩, by simp, e1, by simp [e2]⟩
        · simp at hy; subst hy
          exact ⟨⟨q0.pf, q0.list ++ [y]⟩, by simp, he, by simp⟩
      · rcases List.mem_append.1 hq with hq | hq
        · exact List.mem_append_left _ (h.own q (List.mem_append_left _ hq) y hy)
        · simp at hq; subst hq
          rcases List.mem_append.1 hy with hy | hy
          · exact List.mem_append_left _ (h.own q0 (by simp) y hy)
          · simp at hy; subst hy; simp
      · rcases List.mem_append.1 hq with hq | hq
        · obtain ⟨y, hy, e⟩ := h.some_ q (List.mem_append_left _ hq)
          exact ⟨y, List.mem_append_left _ hy, e⟩
        · simp at hq; subst hq
          obtain ⟨y, hy, e⟩ := h.some_ q0 (by simp)
          exact ⟨y, List.mem_append_left _ hy, e⟩
      · rcases List.mem_append.1 hq with hq | hq
        · have := h.long q (List.mem_append_left _ hq); simp; omega
        · simp at hq; subst hq
          have := h.long q0 (by simp); simp; omega
    · exact hnew (fun q hq => by rw [hl] at hq; injection hq with hq; subst hq; exact he)
theorem grouped_take (r : List Rt) : ∀ k, k ≤ r.length → Grouped (r.take k) (groupsP (r.take k))
  | 0, _ => by rw [List.take_zero]; exact ⟨by simp, by simp [groupsP], by simp [groupsP], by simp [groupsP], by simp [groupsP]⟩
  | k + 1, h => by
    rw [groups_take r k (by omega), List.take_succ_eq_append_getElem (by omega), List.getD_eq_getElem?_getD, List.getElem?_eq_getElem (by omega)]
    exact grouped_step (grouped_take r k (by omega)) _
theorem grouped (r : List Rt) : Grouped r (groupsP r) := by
  have := grouped_take r r.length (Nat.le_refl _)
  rwa [List.take_length] at this

/-- In order, each prefix has one group. -/
theorem groups_rise {r : List Rt} (ho : InOrder r) (hf : ∀ x ∈ r, x.pf.Fine) : ∀ k, k ≤ r.length → (groupsP (r.take k)).Pairwise (fun a b => a.pf.key < b.pf.key) ∧ (∀ q, (groupsP (r.take k)).getLast? = some q → 0 < k ∧ q.pf = (r.getD (k - 1) noRt).pf) ∧ (k = 0 ∨ groupsP (r.take k) ≠ [])
  | 0, _ => by rw [List.take_zero]; exact ⟨by simp [groupsP], by simp [groupsP], .inl rfl⟩
  | k + 1, h => by
    obtain ⟨h1, h2, h3⟩ := groups_rise ho hf k (by omega)
    rw [groups_take r k (by omega)]
    have hx : ∀ j, j < r.length → (r.getD j noRt).pf.Fine := fun j hj => hf _ (by rw [List.getD_eq_getElem?_getD, List.getElem?_eq_getElem hj]; exact List.getElem_mem hj)
    generalize hg : groupsP (r.take k) = g at *
    have hall : ∀ q q0, g.getLast? = some q0 → q ∈ g → q.pf.key ≤ q0.pf.key := by
      intro q q0 hl hq
      obtain ⟨g0, rfl⟩ := List.getLast?_eq_some_iff.1 hl
      rcases List.mem_append.1 hq with hq | hq
      · have := (List.pairwise_append.1 h1).2.2 q hq q0 (by simp)
        omega
      · simp at hq; subst hq; exact Int.le_refl _
    cases hl : g.getLast? with
    | none =>
      have := List.getLast?_eq_none_iff.1 hl
      subst this
      rw [group_new (fun q hq => by simp at hq)]
      refine ⟨by simp, fun q hq => ?_, .inr (by simp)⟩
      simp at hq
      subst hq
      exact ⟨by omega, by simp⟩
    | some q0 =>
      obtain ⟨hk0, e0⟩ := h2 q0 hl
      have hord := ho (k - 1) (by omega)
      rw [show k - 1 + 1 = k from by omega, ← e0] at hord
      have hf0 : q0.pf.Fine := e0 ▸ hx (k - 1) (by omega)
      by_cases he : q0.pf = (r.getD k noRt).pf
      · obtain ⟨g0, rfl⟩ := List.getLast?_eq_some_iff.1 hl
        rw [group_old he]
        obtain ⟨p1, p2, p3⟩ := List.pairwise_append.1 h1
        refine ⟨List.pairwise_append.2 ⟨p1, by simp, fun a ha b hb => ?_⟩, fun q hq => ?_, .inr (by simp)⟩
        · simp at hb; subst hb
          exact p3 a ha q0 (by simp)
        · simp at hq; subst hq
          exact ⟨by omega, by simpa using he⟩
      · have hlt : q0.pf.key < (r.getD k noRt).pf.key := by
          have : q0.pf.key ≠ (r.getD k noRt).pf.key := fun e => he (Pf.key_inj hf0 (hx k (by omega)) e)
          omega
        rw [group_new (fun q hq => by rw [hl] at hq; injection hq with hq; subst hq; exact he)]
        refine ⟨List.pairwise_append.2 ⟨h1, by simp, fun a ha b hb => ?_⟩, fun q hq => ?_, .inr (by simp)⟩
        · simp at hb; subst hb
          have := hall a q0 hl ha
          exact Int.lt_of_le_of_lt this hlt
        · simp at hq; subst hq
          exact ⟨by omega, by simp⟩
theorem groups_apart {r : List Rt} (ho : InOrder r) (hf : ∀ x ∈ r, x.pf.Fine) : (groupsP r).Pairwise (fun a b => a.pf ≠ b.pf) := by
  have := (groups_rise ho hf r.length (Nat.le_refl _)).1
  rw [List.take_length] at this
  exact this.imp fun h e => by rw [e] at h; omega
/-- The routers of a prefix. -/
def ownP (r : List Rt) (p : Pf) : Option (List Rt) := ((groupsP r).find? (fun g => decide (g.pf = p))).map (·.list)
theorem own_some {r : List Rt} {y : Rt} (h : y ∈ r) : ∃ l, ownP r y.pf = some l := by
  obtain ⟨q, hq, e, _⟩ := (grouped r).all y h
  unfold ownP
  cases hf : (groupsP r).find? (fun g => decide (g.pf = y.pf)) with
  | none => exact absurd e (by simpa using List.find?_eq_none.1 hf q hq)
  | some g => exact ⟨_, rfl⟩
theorem own_of {r : List Rt} {p : Pf} {l : List Rt} (h : ownP r p = some l) : ∀ y ∈ l, y ∈ r := by
  unfold ownP at h
  cases hf : (groupsP r).find? (fun g => decide (g.pf = p)) with
  | none => rw [hf] at h; cases h
  | some g =>
    rw [hf] at h
    simp at h
    subst h
    exact (grouped r).own g (List.mem_of_find?_eq_some hf)
theorem own_at {r : List Rt} (ho : InOrder r) (hf : ∀ x ∈ r, x.pf.Fine) {g : Gp} (h : g ∈ groupsP r) : ownP r g.pf = some g.list := by
  have hp := groups_apart ho hf
  unfold ownP
  generalize groupsP r = gs at *
  induction gs with
  | nil => simp at h
  | cons a gs ih =>
    rw [List.find?_cons]
    rw [List.pairwise_cons] at hp
    rcases List.mem_cons.1 h with rfl | h
    · simp
    · rw [decide_eq_false (hp.1 g h)]
      exact ih h hp.2
end Go.Hw
