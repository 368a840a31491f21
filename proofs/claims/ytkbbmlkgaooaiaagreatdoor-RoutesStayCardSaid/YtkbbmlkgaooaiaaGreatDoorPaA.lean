/- The plain law of paths: what is used of samples, and what the statement asks of it. No program in sight. -/
import Derived.Test.YtkbbmlkgaooaiaaGreatDoorMap
namespace Go.Hw

structure Smp where
  at_ : Int
  path : ByteArray
  ms : Int
structure Tn where
  who : ByteArray
  from_ : Int
  to_ : Int
def noTn : Tn := ⟨ByteArray.empty, 0, 0⟩
def noSmp : Smp := ⟨0, ByteArray.empty, 0⟩
/-- End of all times. -/
def endT : Int := 345686400

/-- What was told last of a path. -/
def lastOf (xs : List Smp) (p : ByteArray) (t : Int) : Option Smp := xs.foldl (fun o y => if y.path = p ∧ y.at_ ≤ t then some y else o) none
def goodOf (fresh t : Int) : Option Smp → Option Int
  | none => none
  | some y => if 0 ≤ y.ms ∧ t < y.at_ + fresh then some y.ms else none
def goodAt (xs : List Smp) (fresh : Int) (t : Int) (p : ByteArray) : Option Int := goodOf fresh t (lastOf xs p t)

/-- A choice: nothing is good, or a good path; not for a gain that is too small. -/
def Chosen (good : ByteArray → Option Int) (gain : Int) (now r : ByteArray) : Prop :=
  (r.size = 0 ∧ ∀ p, good p = none) ∨ (r.size ≠ 0 ∧ ∃ n, good r = some n ∧ ∀ old, good now = some old → r ≠ now → gain ≤ old - n)

/-- What the statement asks of a list of times. -/
structure Kept (xs : List Smp) (gain fresh : Int) (l : List Tn) : Prop where
  good : ∀ y ∈ l, goodAt xs fresh y.from_ y.who ≠ none
  next : ∀ i y z, l[i]? = some y → l[i + 1]? = some z → y.to_ ≤ z.from_ ∧ (y.to_ = z.from_ → ∀ old, goodAt xs fresh y.to_ y.who = some old → ∃ n, goodAt xs fresh y.to_ z.who = some n ∧ gain ≤ old - n)
  gone : ∀ i y, l[i]? = some y → y.to_ < endT → goodAt xs fresh y.to_ y.who ≠ none → ∃ z, l[i + 1]? = some z ∧ z.from_ = y.to_

/-- Behind the moments up to t, of which the last choice is 'now'. -/
structure Used (xs : List Smp) (gain fresh t : Int) (now : ByteArray) (l : List Tn) : Prop where
  kept : Kept xs gain fresh l
  from_ : ∀ y ∈ l, y.from_ ≤ t
  open_ : (now.size = 0 ∧ ∀ y ∈ l, y.to_ ≤ t ∧ y.to_ < endT) ∨ (now.size ≠ 0 ∧ ∃ l0 f, l = l0 ++ [⟨now, f, endT⟩] ∧ ∀ y ∈ l0, y.to_ ≤ t ∧ y.to_ < endT)

theorem Used.begin (xs : List Smp) (gain fresh t : Int) : Used xs gain fresh t ByteArray.empty [] :=
  ⟨⟨by simp, by simp, by simp⟩, by simp, .inl ⟨rfl, by simp⟩⟩

/-- route.begins. -/
def beginsP (l : List Tn) (t : Int) (r : ByteArray) : List Tn :=
  match l.getLast? with
  | none => if r.size = 0 then l else l ++ [⟨r, t, endT⟩]
  | some y =>
    if y.to_ = endT then
      if y.who = r then l
      else
        let l1 := if y.from_ = t then l.dropLast else l.dropLast ++ [{ y with to_ := t }]
        if r.size = 0 then l1 else l1 ++ [⟨r, t, endT⟩]
    else if r.size = 0 then l else l ++ [⟨r, t, endT⟩]

theorem size0 {a b : ByteArray} (h : a.size = 0) (k : b.size = 0) : a = b := by
  cases a with | mk a => cases b with | mk b =>
  simp [ByteArray.size] at h k
  simp [h, k]

theorem Kept.snoc {xs : List Smp} {gain fresh t : Int} {l : List Tn} {r : ByteArray} (K : Kept xs gain fresh l) (hto : ∀ y ∈ l, y.to_ < t ∨ (y.to_ = t ∧ l.getLast? = some y)) (hr : goodAt xs fresh t r ≠ none)
    (hl : ∀ y old, l.getLast? = some y → y.to_ = t → goodAt xs fresh t y.who = some old → ∃ n, goodAt xs fresh t r = some n ∧ gain ≤ old - n) : Kept xs gain fresh (l ++ [⟨r, t, endT⟩]) where
  good := by
    intro y hy
    rcases List.mem_append.1 hy with hy | hy
    · exact K.good y hy
    · simp at hy; subst hy; exact hr
  next := by
    intro i y z hy hz
    rw [List.getElem?_append] at hy hz
    split at hz
    · rw [if_pos (by omega)] at hy
      exact K.next i y z hy hz
    · rename_i h1
      have h2 : i + 1 = l.length := by
        have := (List.getElem?_eq_some_iff.1 hz).1
        simp at this
        omega
      rw [if_pos (by omega)] at hy
      rw [h2] at hz
      simp at hz
      subst hz
      have hlast : l.getLast? = some y := by rw [List.getLast?_eq_getElem?, show l.length - 1 = i from by omega]; exact hy
      have hm : y ∈ l := List.mem_of_getElem? hy
      refine ⟨by rcases hto y hm with h | h <;> (simp only; omega), fun e old ho => ?_⟩
      simp only at e
      rw [e] at ho ⊢
      exact hl y old hlast e ho
  gone := by
    intro i y hy hlt hg
    rw [List.getElem?_append] at hy
    split at hy
    · rename_i h1
      by_cases h2 : i + 1 < l.length
      · obtain ⟨z, hz, e⟩ := K.gone i y hy hlt hg
        exact ⟨z, by rw [List.getElem?_append, if_pos h2]; exact hz, e⟩
      · have hlast : l.getLast? = some y := by rw [List.getLast?_eq_getElem?, show l.length - 1 = i from by omega]; exact hy
        have hm : y ∈ l := List.mem_of_getElem? hy
        rcases hto y hm with h | h
        · obtain ⟨z, hz, _⟩ := K.gone i y hy hlt hg
          have := (List.getElem?_eq_some_iff.1 hz).1
          omega
        · refine ⟨⟨r, t, endT⟩, ?_, h.1.symm⟩
          rw [List.getElem?_append, if_neg h2, show i + 1 - l.length = 0 from by omega]
          rfl
    · rename_i h1
      have : i - l.length = 0 := by
        have := (List.getElem?_eq_some_iff.1 hy).1
        simp at this
        omega
      rw [this] at hy
      simp at hy
      subst hy
      simp at hlt

theorem Used.step {xs : List Smp} {gain fresh t t' : Int} {now r : ByteArray} {l : List Tn} (U : Used xs gain fresh t now l) (ht : t < t') (he : t' < endT) (hc : Chosen (goodAt xs fresh t') gain now r) : Used xs gain fresh t' r (beginsP l t' r) := by
  obtain ⟨K, hf, ho⟩ := U
  rcases ho with ⟨h0, hto⟩ | ⟨h0, l0, f, rfl, hto⟩
  · -- nothing was used
    have hb : beginsP l t' r = if r.size = 0 then l else l ++ [⟨r, t', endT⟩] := by
      unfold beginsP
      cases hg : l.getLast? with
      | none => rfl
      | some y =>
        have hm : y ∈ l := List.mem_of_getLast? hg
        have := (hto y hm).2
        simp only
        rw [if_neg (by omega)]
    rw [hb]
    by_cases hr : r.size = 0
    · rw [if_pos hr]
      exact ⟨K, fun y hy => by have := hf y hy; omega, .inl ⟨hr, fun y hy => by have := hto y hy; omega⟩⟩
    · rw [if_neg hr]
      rcases hc with ⟨h1, _⟩ | ⟨_, n, hn, _⟩
      · exact absurd h1 hr
      refine ⟨K.snoc (fun y hy => .inl (by have := hto y hy; omega)) (by rw [hn]; simp) (fun y old hy e => ?_), fun y hy => ?_, .inr ⟨hr, l, t', rfl, fun y hy => by have := hto y hy; omega⟩⟩
      · have := hto y (List.mem_of_getLast? hy)
        omega
      · rcases List.mem_append.1 hy with hy | hy
        · have := hf y hy; omega
        · simp at hy; subst hy; simp
  · by_cases hw : r = now
    · subst hw
      have hb : beginsP (l0 ++ [⟨r, f, endT⟩]) t' r = l0 ++ [⟨r, f, endT⟩] := by
        unfold beginsP
        simp
      rw [hb]
      exact ⟨K, fun y hy => by have := hf y hy; omega, .inr ⟨h0, l0, f, rfl, fun y hy => by have := hto y hy; omega⟩⟩
    · have hft : f ≤ t := hf ⟨now, f, endT⟩ (by simp)
      have hb : beginsP (l0 ++ [⟨now, f, endT⟩]) t' r = if r.size = 0 then l0 ++ [⟨now, f, t'⟩] else (l0 ++ [⟨now, f, t'⟩]) ++ [⟨r, t', endT⟩] := by
        unfold beginsP
        simp [Ne.symm hw, show f ≠ t' from by omega]
      -- the closed times
      have K1g : ∀ y ∈ l0 ++ [(⟨now, f, t'⟩ : Tn)], goodAt xs fresh y.from_ y.who ≠ none := by
        intro y hy
        rcases List.mem_append.1 hy with hy | hy
        · exact K.good y (List.mem_append_left _ hy)
        · simp at hy; subst hy; exact K.good ⟨now, f, endT⟩ (by simp)
      have K1n : ∀ i y z, (l0 ++ [(⟨now, f, t'⟩ : Tn)])[i]? = some y → (l0 ++ [(⟨now, f, t'⟩ : Tn)])[i + 1]? = some z → y.to_ ≤ z.from_ ∧ (y.to_ = z.from_ → ∀ old, goodAt xs fresh y.to_ y.who = some old → ∃ n, goodAt xs fresh y.to_ z.who = some n ∧ gain ≤ old - n) := by
        intro i y z hy hz
        have hi : i < l0.length := by
          have := (List.getElem?_eq_some_iff.1 hz).1
          simp at this
          omega
        rw [List.getElem?_append_left hi] at hy
        by_cases h2 : i + 1 < l0.length
        · rw [List.getElem?_append_left h2] at hz
          exact K.next i y z (by rw [List.getElem?_append_left hi]; exact hy) (by rw [List.getElem?_append_left h2]; exact hz)
        · rw [List.getElem?_append_right (by omega), show i + 1 - l0.length = 0 from by omega] at hz
          simp at hz
          subst hz
          exact K.next i y ⟨now, f, endT⟩ (by rw [List.getElem?_append_left hi]; exact hy) (by rw [List.getElem?_append_right (by omega), show i + 1 - l0.length = 0 from by omega]; rfl)
      have K1o : ∀ i y, i < l0.length → (l0 ++ [(⟨now, f, t'⟩ : Tn)])[i]? = some y → y.to_ < endT → goodAt xs fresh y.to_ y.who ≠ none → ∃ z, (l0 ++ [(⟨now, f, t'⟩ : Tn)])[i + 1]? = some z ∧ z.from_ = y.to_ := by
        intro i y hi hy hlt hg
        rw [List.getElem?_append_left hi] at hy
        obtain ⟨z, hz, e⟩ := K.gone i y (by rw [List.getElem?_append_left hi]; exact hy) hlt hg
        by_cases h2 : i + 1 < l0.length
        · rw [List.getElem?_append_left h2] at hz
          exact ⟨z, by rw [List.getElem?_append_left h2]; exact hz, e⟩
        · rw [List.getElem?_append_right (by omega), show i + 1 - l0.length = 0 from by omega] at hz
          simp at hz
          subst hz
          exact ⟨⟨now, f, t'⟩, by rw [List.getElem?_append_right (by omega), show i + 1 - l0.length = 0 from by omega]; rfl, e⟩
      have hlast : ∀ i y, ¬ i < l0.length → (l0 ++ [(⟨now, f, t'⟩ : Tn)])[i]? = some y → i = l0.length ∧ y = ⟨now, f, t'⟩ := by
        intro i y hi hy
        have h1 := (List.getElem?_eq_some_iff.1 hy).1
        simp at h1
        have : i = l0.length := by omega
        subst this
        simp at hy
        exact ⟨rfl, hy.symm⟩
      rw [hb]
      by_cases hr : r.size = 0
      · rw [if_pos hr]
        have hnone : ∀ p, goodAt xs fresh t' p = none := by
          rcases hc with ⟨_, h⟩ | ⟨h1, _⟩
          · exact h
          · exact absurd hr h1
        refine ⟨⟨K1g, K1n, fun i y hy hlt hg => ?_⟩, fun y hy => ?_, .inl ⟨hr, fun y hy => ?_⟩⟩
        · by_cases hi : i < l0.length
          · exact K1o i y hi hy hlt hg
          · obtain ⟨_, rfl⟩ := hlast i y hi hy
            exact absurd (hnone now) hg
        · rcases List.mem_append.1 hy with hy | hy
          · have := hf y (List.mem_append_left _ hy); omega
          · simp at hy; subst hy; simp only; omega
        · rcases List.mem_append.1 hy with hy | hy
          · have := hto y hy; omega
          · simp at hy; subst hy; simp only; omega
      · rw [if_neg hr]
        rcases hc with ⟨h1, _⟩ | ⟨_, n, hn, hgain⟩
        · exact absurd h1 hr
        -- lay the new time behind the closed ones
        refine ⟨⟨fun y hy => ?_, fun i y z hy hz => ?_, fun i y hy hlt hg => ?_⟩, fun y hy => ?_, .inr ⟨hr, l0 ++ [⟨now, f, t'⟩], t', rfl, fun y hy => ?_⟩⟩
        · rcases List.mem_append.1 hy with hy | hy
          · exact K1g y hy
          · simp at hy; subst hy; simp only; rw [hn]; simp
        · by_cases h2 : i + 1 < (l0 ++ [(⟨now, f, t'⟩ : Tn)]).length
          · rw [List.getElem?_append_left (by omega)] at hy
            rw [List.getElem?_append_left h2] at hz
            exact K1n i y z hy hz
          · have h3 : i + 1 = (l0 ++ [(⟨now, f, t'⟩ : Tn)]).length := by
              have := (List.getElem?_eq_some_iff.1 hz).1
              simp at this h2 ⊢
              omega
            rw [h3] at hz
            simp only [List.getElem?_append_right (Nat.le_refl _), Nat.sub_self] at hz
            simp at hz
            subst hz
            rw [List.getElem?_append_left (by omega)] at hy
            obtain ⟨_, rfl⟩ := hlast i y (by simp at h3; omega) hy
            exact ⟨Int.le_refl _, fun _ old ho => ⟨n, hn, hgain old ho hw⟩⟩
        · by_cases h1 : i < (l0 ++ [(⟨now, f, t'⟩ : Tn)]).length
          · rw [List.getElem?_append_left h1] at hy
            by_cases hi : i < l0.length
            · obtain ⟨z, hz, e⟩ := K1o i y hi hy hlt hg
              exact ⟨z, by rw [List.getElem?_append_left (List.getElem?_eq_some_iff.1 hz).1]; exact hz, e⟩
            · obtain ⟨hi2, rfl⟩ := hlast i y hi hy
              refine ⟨⟨r, t', endT⟩, ?_, rfl⟩
              rw [List.getElem?_append_right (by simp; omega)]
              simp [hi2]
          · have h3 : i = (l0 ++ [(⟨now, f, t'⟩ : Tn)]).length := by
              have := (List.getElem?_eq_some_iff.1 hy).1
              simp at this h1 ⊢
              omega
            rw [h3] at hy
            simp only [List.getElem?_append_right (Nat.le_refl _), Nat.sub_self] at hy
            simp at hy
            subst hy
            simp at hlt
        · rcases List.mem_append.1 hy with hy | hy
          · rcases List.mem_append.1 hy with hy | hy
            · have := hf y (List.mem_append_left _ hy); omega
            · simp at hy; subst hy; simp only; omega
          · simp at hy; subst hy; simp
        · rcases List.mem_append.1 hy with hy | hy
          · have := hto y hy; omega
          · simp at hy; subst hy; simp only; omega
end Go.Hw
