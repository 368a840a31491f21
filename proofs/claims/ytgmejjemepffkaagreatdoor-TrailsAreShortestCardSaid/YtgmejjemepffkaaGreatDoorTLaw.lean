/- TrailsAreShortest: the plain law: each step of a trail is a link that is found, and the lengths add up. -/
import Derived.Test.YtgmejjemepffkaaGreatDoorTClos
namespace Go.Proofs.YtgmejjemepffkaaGreatDoor
open Go.RowKit Go.Hw

theorem cmpB_lt : ∀ a b : List UInt8, Lib.compareBytes a b < 0 ↔ a < b
  | [], [] => by simp [Lib.compareBytes]
  | [], _ :: _ => by simp [Lib.compareBytes]
  | _ :: _, [] => by simp [Lib.compareBytes]
  | a :: x, b :: y => by
    unfold Lib.compareBytes
    rw [List.cons_lt_cons_iff]
    by_cases h1 : a < b
    · simp [h1]
    · by_cases h2 : b < a
      · simp only [h1, h2, if_true, if_false]
        have : a ≠ b := fun e => by subst e; exact h1 h2
        simp [this]
      · have : a = b := UInt8.toNat_inj.1 (by rw [UInt8.lt_iff_toNat_lt] at h1 h2; omega)
        subst this
        simp [cmpB_lt x y]
theorem cmpB_eq : ∀ a b : List UInt8, Lib.compareBytes a b = 0 ↔ a = b
  | [], [] => by simp [Lib.compareBytes]
  | [], _ :: _ => by simp [Lib.compareBytes]
  | _ :: _, [] => by simp [Lib.compareBytes]
  | a :: x, b :: y => by
    unfold Lib.compareBytes
    by_cases h1 : a < b
    · simp only [h1, if_true]
      have : a ≠ b := fun e => by subst e; rw [UInt8.lt_iff_toNat_lt] at h1; omega
      simp [this]
    · by_cases h2 : b < a
      · simp only [h1, h2, if_true, if_false]
        have : a ≠ b := fun e => by subst e; exact h1 h2
        simp [this]
      · have : a = b := UInt8.toNat_inj.1 (by rw [UInt8.lt_iff_toNat_lt] at h1 h2; omega)
        subst this
        simp [cmpB_eq x y]

/-- Link x comes ahead of link y. -/
def lkLess (x y : Lk) : Prop := x.a.data.toList < y.a.data.toList ∨ (x.a.data.toList = y.a.data.toList ∧ x.b.data.toList < y.b.data.toList)
theorem lkLess_trans {x y z : Lk} (h : lkLess x y) (k : lkLess y z) : lkLess x z := by
  rcases h with h | ⟨h1, h2⟩ <;> rcases k with k | ⟨k1, k2⟩
  · exact .inl (List.lt_trans h k)
  · exact .inl (k1 ▸ h)
  · exact .inl (h1 ▸ k)
  · exact .inr ⟨h1.trans k1, List.lt_trans h2 k2⟩
theorem lkLess_of {x y : Lk} (h : orOf [Lib.compareBytes x.a.data.toList y.a.data.toList, Lib.compareBytes x.b.data.toList y.b.data.toList] < 0) : lkLess x y := by
  unfold orOf at h
  by_cases e : Lib.compareBytes x.a.data.toList y.a.data.toList = 0
  · rw [if_pos e] at h
    unfold orOf at h
    by_cases e2 : Lib.compareBytes x.b.data.toList y.b.data.toList = 0
    · rw [if_pos e2] at h; simp [orOf] at h
    · rw [if_neg e2] at h
      exact .inr ⟨(cmpB_eq _ _).1 e, (cmpB_lt _ _).1 h⟩
  · rw [if_neg e] at h
    exact .inl ((cmpB_lt _ _).1 h)
theorem code_less {xs : List Lk} {i : Nat} (h : linkCode xs (i + 1) = 0) : lkLess (xs.getD i noLk) (xs.getD (i + 1) noLk) := by
  apply lkLess_of
  unfold linkCode at h
  cases h1 : isKey (xs.getD (i + 1) noLk).a
  · rw [if_pos h1] at h; simp at h
  · rw [if_neg (by rw [h1]; decide)] at h
    cases h2 : isKey (xs.getD (i + 1) noLk).b
    · rw [if_pos h2] at h; simp at h
    · rw [if_neg (by rw [h2]; decide)] at h
      cases h3 : strGeq (xs.getD (i + 1) noLk).a (xs.getD (i + 1) noLk).b
      · rw [h3, if_neg (by decide)] at h
        by_cases h4 : 0 ≤ (xs.getD (i + 1) noLk).m ∧ (xs.getD (i + 1) noLk).m ≤ 1000000
        · rw [if_neg (by simpa using h4)] at h
          by_cases h5 : 0 < i + 1 ∧ 0 ≤ orOf [Lib.compareBytes (xs.getD (i + 1 - 1) noLk).a.data.toList (xs.getD (i + 1) noLk).a.data.toList, Lib.compareBytes (xs.getD (i + 1 - 1) noLk).b.data.toList (xs.getD (i + 1) noLk).b.data.toList]
          · rw [if_pos h5] at h; simp at h
          · have h6 : ¬ (0 ≤ orOf [Lib.compareBytes (xs.getD (i + 1 - 1) noLk).a.data.toList (xs.getD (i + 1) noLk).a.data.toList, Lib.compareBytes (xs.getD (i + 1 - 1) noLk).b.data.toList (xs.getD (i + 1) noLk).b.data.toList]) := fun c => h5 ⟨by omega, c⟩
            rw [Nat.add_sub_cancel] at h6
            omega
        · rw [if_pos h4] at h; simp at h
      · rw [h3, if_pos rfl] at h; simp at h
theorem links_less {xs : List Lk} (h : linksFault xs = 0) : ∀ j i, i < j → j < xs.length → lkLess (xs.getD i noLk) (xs.getD j noLk) := by
  obtain ⟨_, hc⟩ := fault_zero h
  intro j
  induction j with
  | zero => intro i hi; omega
  | succ j ih =>
    intro i hi hj
    have h1 := code_less (hc (j + 1) hj)
    by_cases e : i = j
    · subst e; exact h1
    · exact lkLess_trans (ih i (by omega) (by omega)) h1
theorem lkLess_irr {x y : Lk} (h : lkLess x y) (ha : x.a = y.a) (hb : x.b = y.b) : False := by
  rcases h with h | ⟨_, h⟩
  · rw [ha] at h; exact List.lt_irrefl _ h
  · rw [hb] at h; exact List.lt_irrefl _ h

theorem toList_inj {a b : ByteArray} (h : a.toList = b.toList) : a = b := by
  rw [ByteArray.toList_eq, ByteArray.toList_eq] at h
  cases a; cases b
  simp only at h
  congr 1
  exact Array.toList_inj.1 h
theorem lnkP_iff {p q : ByteArray} {l : Lk} : lnkP p q l = true ↔ l.a = Lib.minS p q ∧ l.b = Lib.maxS p q := by
  unfold lnkP
  simp only [Bool.and_eq_true, beq_iff_eq]
  exact ⟨fun h => ⟨toList_inj h.1, toList_inj h.2⟩, fun h => ⟨by rw [h.1], by rw [h.2]⟩⟩
/-- A step is found as a link. -/
theorem step_found {xs : List Link} (hf : linksFault (xs.map lkOf) = 0) {p q : ByteArray} {m : Nat} (h : (q, m) ∈ stepsAt xs p) :
    ∃ k, k < xs.length ∧ idxLnk (xs.map lkOf) p q = k ∧ ((xs.map lkOf).getD k noLk).m = m := by
  obtain ⟨hl, hc⟩ := fault_zero hf
  obtain ⟨l, hlx, hor⟩ := mem_steps.1 h
  obtain ⟨i, hi, rfl⟩ := List.getElem_of_mem hlx
  have hi' : i < (xs.map lkOf).length := by simpa using hi
  have hgi : (xs.map lkOf).getD i noLk = lkOf xs[i] := by simp [List.getElem?_eq_getElem hi]
  have hcode := code_zero (hc i hi')
  rw [hgi] at hcode
  have hlt : xs[i].a.data.toList < xs[i].b.data.toList := by
    have := hcode.2.2.1
    rw [bytesLess_eq, Lib.toList_data, Lib.toList_data] at this
    simpa [lkOf] using this
  have hp : lnkP p q (lkOf xs[i]) = true := by
    rw [lnkP_iff]
    rcases hor with ⟨h1, h2, h3⟩ | ⟨h1, h2, h3⟩
    · subst h1 h2
      exact ⟨by simp [Lib.minS, hlt, lkOf], by simp [Lib.maxS, hlt, lkOf]⟩
    · subst h1 h2
      have hn : ¬ xs[i].b.data.toList < xs[i].a.data.toList := fun c => List.lt_irrefl _ (List.lt_trans hlt c)
      have he : ¬ xs[i].b.data.toList = xs[i].a.data.toList := fun c => by rw [c] at hlt; exact List.lt_irrefl _ hlt
      exact ⟨by unfold Lib.minS; rw [if_neg (by rintro (c | c); exact hn c; exact he c)]; rfl, by unfold Lib.maxS; rw [if_neg hn]; rfl⟩
  have hu : ∀ j, j < xs.length → lnkP p q ((xs.map lkOf).getD j noLk) = true → j = i := by
    intro j hj hjp
    rw [lnkP_iff] at hjp
    have hp' := lnkP_iff.1 hp
    rw [← hgi] at hp'
    rcases Nat.lt_trichotomy j i with c | c | c
    · exact (lkLess_irr (links_less hf i j c hi') (hjp.1.trans hp'.1.symm) (hjp.2.trans hp'.2.symm)).elim
    · exact c
    · exact (lkLess_irr (links_less hf j i c (by simpa using hj)) (hp'.1.trans hjp.1.symm) (hp'.2.trans hjp.2.symm)).elim
  refine ⟨i, hi, idxLnk_at hi' (fun j hj => ?_) (by rw [hgi]; exact hp), ?_⟩
  · cases hb : lnkP p q ((xs.map lkOf).getD j noLk)
    · rfl
    · have := hu j (by omega) hb; omega
  · rw [hgi]
    rcases hor with ⟨_, _, h3⟩ | ⟨_, _, h3⟩ <;> (simp only [lkOf]; omega)

/-- The lengths of a trail's beginnings. -/
theorem trail_parts {xs : List Link} {a v : ByteArray} {ts : List ByteArray} {n : Nat} (h : TrailTo xs a ts v n) :
    1 ≤ ts.length ∧ ts[0]? = some a ∧ ts[ts.length - 1]? = some v ∧ ∃ pre : Nat → Nat, pre 0 = 0 ∧ pre (ts.length - 1) = n ∧ (∀ i, pre i ≤ n) ∧ ∀ i, i + 1 < ts.length → ∃ m, (ts.getD (i + 1) ⟨#[]⟩, m) ∈ stepsAt xs (ts.getD i ⟨#[]⟩) ∧ pre (i + 1) = pre i + m := by
  induction h with
  | start => exact ⟨by simp, rfl, rfl, fun _ => 0, rfl, rfl, fun _ => Nat.le_refl _, fun i hi => by simp at hi⟩
  | step ht hm ih =>
    rename_i ts u v s m
    obtain ⟨h1, h2, h3, pre, p0, pn, pb, ps⟩ := ih
    refine ⟨by simp, ?_, by simp, fun i => if i < ts.length then pre i else s + m, ?_, ?_, ?_, ?_⟩
    · rw [List.getElem?_append_left (by omega)]; exact h2
    · show (if 0 < ts.length then pre 0 else s + m) = 0
      rw [if_pos (by omega), p0]
    · simp
    · intro i
      show (if i < ts.length then pre i else s + m) ≤ s + m
      split
      · have := pb i; omega
      · omega
    · intro i hi
      simp only [List.length_append, List.length_singleton] at hi
      by_cases hlt : i + 1 < ts.length
      · obtain ⟨m', h4, h5⟩ := ps i hlt
        refine ⟨m', ?_, ?_⟩
        · have e1 : (ts ++ [v]).getD (i + 1) ⟨#[]⟩ = ts.getD (i + 1) ⟨#[]⟩ := by simp [List.getElem?_append_left hlt]
          have e2 : (ts ++ [v]).getD i ⟨#[]⟩ = ts.getD i ⟨#[]⟩ := by simp [List.getElem?_append_left (show i < ts.length by omega)]
          rw [e1, e2]; exact h4
        · show (if i + 1 < ts.length then pre (i + 1) else s + m) = (if i < ts.length then pre i else s + m) + m'
          rw [if_pos hlt, if_pos (by omega), h5]
      · have e : i + 1 = ts.length := by omega
        refine ⟨m, ?_, ?_⟩
        · have e1 : (ts ++ [v]).getD (i + 1) ⟨#[]⟩ = v := by rw [e]; simp
          have e2 : (ts ++ [v]).getD i ⟨#[]⟩ = u := by
            have : i = ts.length - 1 := by omega
            rw [List.getD_eq_getElem?_getD, List.getElem?_append_left (by omega), this, h3]; rfl
          rw [e1, e2]; exact hm
        · show (if i + 1 < ts.length then pre (i + 1) else s + m) = (if i < ts.length then pre i else s + m) + m
          rw [if_neg (by omega), if_pos (by omega)]
          have : i = ts.length - 1 := by omega
          rw [this, pn]
end Go.Proofs.YtgmejjemepffkaaGreatDoor
