/- Sets of numbers as rows of ranges, and as rows of blocks: the plain law. Sets as rows of blocks: the least row. How many blocks a set needs. -/
import Derived.ProofKit
namespace Go.Proofs.YtajifionclpphaaGreatDoor
/-! ### ranges (from .1 on, ahead of .2) -/
abbrev Sn := Nat × Nat
def hasS (S : List Sn) (n : Nat) : Prop := ∃ x ∈ S, x.1 ≤ n ∧ n < x.2
def okS (S : List Sn) : Prop := ∀ x ∈ S, x.1 < x.2
structure NormS (S : List Sn) : Prop where
  ok : okS S
  gap : S.Pairwise (fun x y => x.2 < y.1)
theorem hasS_nil (n : Nat) : ¬ hasS [] n := by rintro ⟨x, hx, _⟩; cases hx
theorem hasS_cons (x : Sn) (S : List Sn) (n : Nat) : hasS (x :: S) n ↔ (x.1 ≤ n ∧ n < x.2) ∨ hasS S n := by
  unfold hasS
  simp only [List.mem_cons, exists_eq_or_imp]
theorem hasS_append (S T : List Sn) (n : Nat) : hasS (S ++ T) n ↔ hasS S n ∨ hasS T n := by
  unfold hasS
  constructor
  · rintro ⟨x, hx, h⟩
    rcases List.mem_append.1 hx with h' | h'
    · exact .inl ⟨x, h', h⟩
    · exact .inr ⟨x, h', h⟩
  · rintro (⟨x, hx, h⟩ | ⟨x, hx, h⟩)
    · exact ⟨x, List.mem_append_left _ hx, h⟩
    · exact ⟨x, List.mem_append_right _ hx, h⟩
theorem hasS_perm {S T : List Sn} (h : S.Perm T) (n : Nat) : hasS S n ↔ hasS T n := by
  unfold hasS
  constructor
  · rintro ⟨x, hx, hh⟩; exact ⟨x, h.mem_iff.1 hx, hh⟩
  · rintro ⟨x, hx, hh⟩; exact ⟨x, h.mem_iff.2 hx, hh⟩
theorem NormS.nil : NormS [] := ⟨(by intro x hx; cases hx), List.Pairwise.nil⟩
theorem NormS.tail {x : Sn} {S : List Sn} (h : NormS (x :: S)) : NormS S := ⟨fun y hy => h.ok y (by simp [hy]), (List.pairwise_cons.1 h.gap).2⟩
theorem NormS.past {x : Sn} {S : List Sn} (h : NormS (x :: S)) {n : Nat} (hn : hasS S n) : x.2 < n := by
  obtain ⟨y, hy, h1, h2⟩ := hn
  have := (List.pairwise_cons.1 h.gap).1 y hy
  omega
theorem NormS.head {x : Sn} {S : List Sn} (h : NormS (x :: S)) {n : Nat} (hn : hasS (x :: S) n) : x.1 ≤ n := by
  rcases (hasS_cons x S n).1 hn with h1 | h1
  · exact h1.1
  · have := h.past h1
    have := h.ok x (by simp)
    omega
theorem NormS.end_ {x : Sn} {S : List Sn} (h : NormS (x :: S)) : ¬ hasS (x :: S) x.2 := by
  intro hn
  rcases (hasS_cons x S _).1 hn with h1 | h1
  · omega
  · have := h.past h1; omega
theorem NormS.first {x : Sn} {S : List Sn} (h : NormS (x :: S)) : hasS (x :: S) x.1 := (hasS_cons x S _).2 (.inl ⟨Nat.le_refl _, h.ok x (by simp)⟩)
/-- A set has one form. -/
theorem norm_eq : ∀ {S T : List Sn}, NormS S → NormS T → (∀ n, hasS S n ↔ hasS T n) → S = T
  | [], [], _, _, _ => rfl
  | [], y :: T, _, hT, h => absurd ((h _).2 hT.first) (hasS_nil _)
  | x :: S, [], hS, _, h => absurd ((h _).1 hS.first) (hasS_nil _)
  | x :: S, y :: T, hS, hT, h => by
    have a1 := hT.head ((h _).1 hS.first)
    have a2 := hS.head ((h _).2 hT.first)
    have o1 := hS.ok x (by simp)
    have o2 := hT.ok y (by simp)
    have b1 : ¬ x.2 < y.2 := fun hlt => hS.end_ ((h _).2 ((hasS_cons y T _).2 (.inl ⟨by omega, hlt⟩)))
    have b2 : ¬ y.2 < x.2 := fun hlt => hT.end_ ((h _).1 ((hasS_cons x S _).2 (.inl ⟨by omega, hlt⟩)))
    have e : x = y := Prod.ext (by omega) (by omega)
    subst e
    rw [norm_eq hS.tail hT.tail (fun n => ⟨fun hn => by
      have := hS.past hn
      rcases (hasS_cons x T n).1 ((h n).1 ((hasS_cons x S n).2 (.inr hn))) with h1 | h1
      · omega
      · exact h1, fun hn => by
      have := hT.past hn
      rcases (hasS_cons x S n).1 ((h n).2 ((hasS_cons x T n).2 (.inr hn))) with h1 | h1
      · omega
      · exact h1⟩)]
/-! ### put together -/
def stepJ (out : List Sn) (y : Sn) : List Sn :=
  match out.getLast? with
  | none => [y]
  | some x => if y.1 ≤ x.2 then out.dropLast ++ [(x.1, max x.2 y.2)] else out ++ [y]
def joinS (l : List Sn) : List Sn := l.foldl stepJ []
theorem stepJ_law {out : List Sn} {y : Sn} (hn : NormS out) (hy : y.1 < y.2) (hs : ∀ x ∈ out, x.1 ≤ y.1) :
    NormS (stepJ out y) ∧ (∀ n, hasS (stepJ out y) n ↔ hasS out n ∨ (y.1 ≤ n ∧ n < y.2)) ∧ ∀ x ∈ stepJ out y, x.1 ≤ y.1 := by
  rcases List.eq_nil_or_concat out with rfl | ⟨O, x, rfl⟩
  · refine ⟨⟨fun z hz => ?_, by simp [stepJ]⟩, fun n => ?_, fun z hz => ?_⟩
    · simp [stepJ] at hz; rw [hz]; exact hy
    · simp only [stepJ, List.getLast?_nil]
      rw [hasS_cons]
      constructor
      · rintro (h | h)
        · exact .inr h
        · exact .inl h
      · rintro (h | h)
        · exact .inr h
        · exact .inl h
    · simp [stepJ] at hz; rw [hz]; exact Nat.le_refl _
  · rw [List.concat_eq_append] at *
    have hx := hs x (by simp)
    have hxo := hn.ok x (by simp)
    obtain ⟨g1, g2, g3⟩ := List.pairwise_append.1 hn.gap
    have hO : ∀ z ∈ O, z.2 < x.1 := fun z hz => g3 z hz x (by simp)
    have hOok : okS O := fun z hz => hn.ok z (by simp [hz])
    have hst : stepJ (O ++ [x]) y = if y.1 ≤ x.2 then O ++ [(x.1, max x.2 y.2)] else O ++ [x] ++ [y] := by
      unfold stepJ
      rw [List.getLast?_concat, List.dropLast_concat]
    rw [hst]
    by_cases ht : y.1 ≤ x.2
    · rw [if_pos ht]
      refine ⟨⟨fun z hz => ?_, List.pairwise_append.2 ⟨g1, by simp, fun z hz w hw => ?_⟩⟩, fun n => ?_, fun z hz => ?_⟩
      · rcases List.mem_append.1 hz with h | h
        · exact hOok z h
        · simp at h; rw [h]; show x.1 < max x.2 y.2; omega
      · simp at hw; rw [hw]; exact hO z hz
      · rw [hasS_append, hasS_append, hasS_cons, hasS_cons]
        have e1 : ¬ hasS [] n := hasS_nil n
        constructor
        · rintro (h | (⟨h1, h2⟩ | h))
          · exact .inl (.inl h)
          · dsimp only at h1 h2
            by_cases h3 : n < x.2
            · exact .inl (.inr (.inl ⟨h1, h3⟩))
            · exact .inr ⟨by omega, by omega⟩
          · exact absurd h e1
        · rintro ((h | (⟨h1, h2⟩ | h)) | ⟨h1, h2⟩)
          · exact .inl h
          · exact .inr (.inl ⟨h1, by show n < max x.2 y.2; omega⟩)
          · exact absurd h e1
          · exact .inr (.inl ⟨by show x.1 ≤ n; omega, by show n < max x.2 y.2; omega⟩)
      · rcases List.mem_append.1 hz with h | h
        · exact hs z (by simp [h])
        · simp at h; rw [h]; exact hx
    · rw [if_neg ht]
      refine ⟨⟨fun z hz => ?_, List.pairwise_append.2 ⟨hn.gap, by simp, fun z hz w hw => ?_⟩⟩, fun n => ?_, fun z hz => ?_⟩
      · rcases List.mem_append.1 hz with h | h
        · exact hn.ok z h
        · simp at h; rw [h]; exact hy
      · simp at hw; rw [hw]
        rcases List.mem_append.1 hz with h | h
        · have := hO z h; omega
        · simp at h; rw [h]; omega
      · rw [hasS_append, hasS_cons]
        have e1 : ¬ hasS [] n := hasS_nil n
        constructor
        · rintro (h | (h | h))
          · exact .inl h
          · exact .inr h
          · exact absurd h e1
        · rintro (h | h)
          · exact .inl h
          · exact .inr (.inl h)
      · rcases List.mem_append.1 hz with h | h
        · exact hs z h
        · simp at h; rw [h]; exact Nat.le_refl _
theorem joinG_law : ∀ (l out : List Sn), NormS out → okS l → l.Pairwise (fun x y => x.1 ≤ y.1) → (∀ x ∈ out, ∀ y ∈ l, x.1 ≤ y.1) → NormS (l.foldl stepJ out) ∧ ∀ n, hasS (l.foldl stepJ out) n ↔ hasS out n ∨ hasS l n
  | [], out, hn, _, _, _ => ⟨hn, fun n => ⟨.inl, fun h => h.elim id (fun h => absurd h (hasS_nil n))⟩⟩
  | y :: l, out, hn, hok, hs, hc => by
    obtain ⟨p1, p2⟩ := List.pairwise_cons.1 hs
    obtain ⟨s1, s2, s3⟩ := stepJ_law hn (hok y (by simp)) (fun x hx => hc x hx y (by simp))
    obtain ⟨r1, r2⟩ := joinG_law l (stepJ out y) s1 (fun z hz => hok z (by simp [hz])) p2 (fun x hx z hz => Nat.le_trans (s3 x hx) (p1 z hz))
    refine ⟨r1, fun n => ?_⟩
    rw [List.foldl_cons, r2 n, s2 n, hasS_cons, or_assoc]
/-- What is put together is the set's one form. -/
theorem joinS_law {l : List Sn} (hok : okS l) (hs : l.Pairwise (fun x y => x.1 ≤ y.1)) : NormS (joinS l) ∧ ∀ n, hasS (joinS l) n ↔ hasS l n := by
  obtain ⟨h1, h2⟩ := joinG_law l [] NormS.nil hok hs (fun x hx => by cases hx)
  exact ⟨h1, fun n => (h2 n).trans ⟨fun h => h.elim (fun h => absurd h (hasS_nil n)) id, .inr⟩⟩
/-! ### both -/
def bothS : List Sn → List Sn → List Sn
  | x :: a, y :: b => (if max x.1 y.1 < min x.2 y.2 then [(max x.1 y.1, min x.2 y.2)] else []) ++ if x.2 < y.2 then bothS a (y :: b) else bothS (x :: a) b
  | [], _ => []
  | _ :: _, [] => []
termination_by a b => a.length + b.length
theorem bothS_law : ∀ (k : Nat) (a b : List Sn), a.length + b.length ≤ k → NormS a → NormS b → (∀ n, hasS (bothS a b) n ↔ hasS a n ∧ hasS b n) ∧ okS (bothS a b)
  | _, [], b, _, _, _ => by
    rw [bothS]
    exact ⟨fun n => ⟨fun h => absurd h (hasS_nil n), fun h => absurd h.1 (hasS_nil n)⟩, fun x hx => by cases hx⟩
  | _, x :: a, [], _, _, _ => by
    rw [bothS]
    exact ⟨fun n => ⟨fun h => absurd h (hasS_nil n), fun h => absurd h.2 (hasS_nil n)⟩, fun x hx => by cases hx⟩
  | 0, x :: a, y :: b, h, _, _ => by simp at h
  | k + 1, x :: a, y :: b, h, ha, hb => by
    have hh : ∀ n, hasS (if max x.1 y.1 < min x.2 y.2 then [(max x.1 y.1, min x.2 y.2)] else []) n ↔ (x.1 ≤ n ∧ n < x.2) ∧ (y.1 ≤ n ∧ n < y.2) := by
      intro n
      by_cases hc : max x.1 y.1 < min x.2 y.2
      · rw [if_pos hc, hasS_cons]
        constructor
        · rintro (⟨h1, h2⟩ | h1)
          · dsimp only at h1 h2; omega
          · exact absurd h1 (hasS_nil n)
        · intro h1
          exact .inl ⟨by show max x.1 y.1 ≤ n; omega, by show n < min x.2 y.2; omega⟩
      · rw [if_neg hc]
        exact ⟨fun h1 => absurd h1 (hasS_nil n), fun h1 => by omega⟩
    have ho : okS (if max x.1 y.1 < min x.2 y.2 then [(max x.1 y.1, min x.2 y.2)] else []) := by
      intro z hz
      split at hz
      · simp at hz; rw [hz]; assumption
      · cases hz
    rw [bothS]
    by_cases hlt : x.2 < y.2
    · rw [if_pos hlt]
      obtain ⟨r1, r2⟩ := bothS_law k a (y :: b) (by simp at h ⊢; omega) ha.tail hb
      refine ⟨fun n => ?_, fun z hz => (List.mem_append.1 hz).elim (ho z) (r2 z)⟩
      rw [hasS_append, hh n, r1 n, hasS_cons x a, hasS_cons y b]
      constructor
      · rintro (⟨h1, h2⟩ | ⟨h1, h2⟩)
        · exact ⟨.inl h1, .inl h2⟩
        · exact ⟨.inr h1, h2⟩
      · rintro ⟨h1 | h1, h2 | h2⟩
        · exact .inl ⟨h1, h2⟩
        · have := hb.past h2; omega
        · exact .inr ⟨h1, .inl h2⟩
        · exact .inr ⟨h1, .inr h2⟩
    · rw [if_neg hlt]
      obtain ⟨r1, r2⟩ := bothS_law k (x :: a) b (by simp at h ⊢; omega) ha hb.tail
      refine ⟨fun n => ?_, fun z hz => (List.mem_append.1 hz).elim (ho z) (r2 z)⟩
      rw [hasS_append, hh n, r1 n, hasS_cons x a, hasS_cons y b]
      constructor
      · rintro (⟨h1, h2⟩ | ⟨h1, h2⟩)
        · exact ⟨.inl h1, .inl h2⟩
        · exact ⟨h1, .inr h2⟩
      · rintro ⟨h1 | h1, h2 | h2⟩
        · exact .inl ⟨h1, h2⟩
        · exact .inr ⟨.inl h1, h2⟩
        · have := ha.past h1; omega
        · exact .inr ⟨.inr h1, h2⟩
/-! ### the rest, of one family -/
def restG (hi : Nat) : Nat → Bool → List Sn → List Sn
  | at_, left, [] => if left then [(at_, hi)] else []
  | at_, _, r :: l => (if at_ < r.1 then [(at_, r.1)] else []) ++ restG hi r.2 (decide (r.2 < hi)) l
theorem restG_law (hi : Nat) : ∀ (l : List Sn) (at_ : Nat), NormS l → (∀ x ∈ l, at_ ≤ x.1 ∧ x.2 ≤ hi) → at_ ≤ hi →
    NormS (restG hi at_ (decide (at_ < hi)) l) ∧ (∀ n, hasS (restG hi at_ (decide (at_ < hi)) l) n ↔ (at_ ≤ n ∧ n < hi) ∧ ¬ hasS l n) ∧ ∀ x ∈ restG hi at_ (decide (at_ < hi)) l, at_ ≤ x.1 ∧ x.2 ≤ hi
  | [], at_, _, _, hle => by
    unfold restG
    by_cases h : at_ < hi
    · rw [if_pos (by simpa using h)]
      refine ⟨⟨fun x hx => by simp at hx; rw [hx]; exact h, by simp⟩, fun n => ?_, fun x hx => by simp at hx; rw [hx]; exact ⟨Nat.le_refl _, Nat.le_refl _⟩⟩
      rw [hasS_cons]
      exact ⟨fun h1 => h1.elim (fun h1 => ⟨h1, hasS_nil n⟩) (fun h1 => absurd h1 (hasS_nil n)), fun h1 => .inl h1.1⟩
    · rw [if_neg (by simpa using h)]
      refine ⟨NormS.nil, fun n => ⟨fun h1 => absurd h1 (hasS_nil n), fun h1 => by omega⟩, fun x hx => by cases hx⟩
  | r :: l, at_, hn, hb, hle => by
    have hr := hb r (by simp)
    have hro := hn.ok r (by simp)
    obtain ⟨q1, q2, q3⟩ := restG_law hi l r.2 hn.tail (fun x hx => ⟨Nat.le_of_lt ((List.pairwise_cons.1 hn.gap).1 x hx), (hb x (by simp [hx])).2⟩) hr.2
    unfold restG
    have hp : ∀ n, hasS l n → r.2 < n := fun n hn' => hn.past hn'
    by_cases h : at_ < r.1
    · rw [if_pos h]
      refine ⟨⟨fun x hx => ?_, List.pairwise_append.2 ⟨by simp, q1.gap, fun x hx y hy => ?_⟩⟩, fun n => ?_, fun x hx => ?_⟩
      · rcases List.mem_append.1 hx with h1 | h1
        · simp at h1; rw [h1]; exact h
        · exact q1.ok x h1
      · simp at hx; rw [hx]; have := (q3 y hy).1; show r.1 < y.1; omega
      · rw [hasS_append, q2 n, hasS_cons, hasS_cons]
        constructor
        · rintro ((⟨h1, h2⟩ | h1) | ⟨h1, h2⟩)
          · dsimp only at h1 h2
            refine ⟨⟨h1, by omega⟩, ?_⟩
            rintro (h3 | h3)
            · omega
            · have := hp n h3; omega
          · exact absurd h1 (hasS_nil n)
          · refine ⟨⟨by omega, h1.2⟩, ?_⟩
            rintro (h3 | h3)
            · omega
            · exact h2 h3
        · rintro ⟨h1, h2⟩
          by_cases h3 : n < r.1
          · exact .inl (.inl ⟨h1.1, h3⟩)
          · refine .inr ⟨⟨?_, h1.2⟩, fun h4 => h2 (.inr h4)⟩
            by_cases h4 : n < r.2
            · exact absurd (.inl ⟨by omega, h4⟩) h2
            · omega
      · rcases List.mem_append.1 hx with h1 | h1
        · simp at h1; rw [h1]; exact ⟨Nat.le_refl _, by show r.1 ≤ hi; omega⟩
        · have := q3 x h1; omega
    · rw [if_neg h, List.nil_append]
      refine ⟨q1, fun n => ?_, fun x hx => by have := q3 x hx; omega⟩
      rw [q2 n, hasS_cons]
      constructor
      · rintro ⟨h1, h2⟩
        refine ⟨⟨by omega, h1.2⟩, ?_⟩
        rintro (h3 | h3)
        · omega
        · exact h2 h3
      · rintro ⟨h1, h2⟩
        refine ⟨⟨?_, h1.2⟩, fun h4 => h2 (.inr h4)⟩
        by_cases h4 : n < r.2
        · exact absurd (.inl ⟨by omega, h4⟩) h2
        · omega
end Go.Proofs.YtajifionclpphaaGreatDoor

namespace Go.Proofs.YtajifionclpphaaGreatDoor
/-! ### blocks: (f, m) has the numbers from f on, ahead of f + 2 ^ m -/
abbrev Bk := Nat × Nat
def bkS (b : Bk) : Sn := (b.1, b.1 + 2 ^ b.2)
def alB (b : Bk) : Prop := 2 ^ b.2 ∣ b.1
/-- How large a block can begin here. -/
def growM (at_ e : Nat) : Nat → Nat → Nat
  | 0, m => m
  | k + 1, m => if 2 ^ (m + 1) ∣ at_ ∧ at_ + 2 ^ (m + 1) ≤ e then growM at_ e k (m + 1) else m
theorem growM_law (at_ e : Nat) : ∀ (k m : Nat), 2 ^ m ∣ at_ → at_ + 2 ^ m ≤ e → m ≤ growM at_ e k m ∧ growM at_ e k m ≤ m + k ∧ 2 ^ growM at_ e k m ∣ at_ ∧ at_ + 2 ^ growM at_ e k m ≤ e ∧ (growM at_ e k m < m + k → ¬ (2 ^ (growM at_ e k m + 1) ∣ at_ ∧ at_ + 2 ^ (growM at_ e k m + 1) ≤ e))
  | 0, m, h1, h2 => ⟨Nat.le_refl _, Nat.le_refl _, h1, h2, fun h => absurd h (Nat.lt_irrefl _)⟩
  | k + 1, m, h1, h2 => by
    unfold growM
    by_cases h : 2 ^ (m + 1) ∣ at_ ∧ at_ + 2 ^ (m + 1) ≤ e
    · rw [if_pos h]
      obtain ⟨q1, q2, q3, q4, q5⟩ := growM_law at_ e k (m + 1) h.1 h.2
      exact ⟨by omega, by omega, q3, q4, fun hh => q5 (by omega)⟩
    · rw [if_neg h]
      exact ⟨Nat.le_refl _, by omega, h1, h2, fun _ => h⟩
def bigM (at_ e : Nat) : Nat := growM at_ e 128 0
theorem bigM_law {at_ e : Nat} (h : at_ < e) : 2 ^ bigM at_ e ∣ at_ ∧ at_ + 2 ^ bigM at_ e ≤ e ∧ bigM at_ e ≤ 128 := by
  obtain ⟨_, q2, q3, q4, _⟩ := growM_law at_ e 128 0 (by simp) (by simp; omega)
  exact ⟨q3, q4, by unfold bigM; omega⟩
/-- No larger one fits. -/
theorem bigM_max {at_ e k : Nat} (h : at_ < e) (he : e ≤ at_ + 2 ^ 128) (h1 : 2 ^ k ∣ at_) (h2 : at_ + 2 ^ k ≤ e) : k ≤ bigM at_ e := by
  obtain ⟨_, q2, _, _, q5⟩ := growM_law at_ e 128 0 (by simp) (by simp; omega)
  have hk : k ≤ 128 := by
    rcases Nat.lt_or_ge 128 k with h3 | h3
    · have := Nat.pow_lt_pow_right (a := 2) (by omega) h3
      omega
    · exact h3
  rcases Nat.lt_or_ge (bigM at_ e) k with h3 | h3
  · have h4 : 2 ^ (bigM at_ e + 1) ∣ 2 ^ k := Nat.pow_dvd_pow 2 h3
    have h5 : 2 ^ (bigM at_ e + 1) ≤ 2 ^ k := Nat.pow_le_pow_right (by omega) h3
    unfold bigM at h3 h4 h5
    exact absurd ⟨Nat.dvd_trans h4 h1, by omega⟩ (q5 (by omega))
  · exact h3
def preG (at_ e : Nat) : List Bk := if h : at_ < e then (at_, bigM at_ e) :: preG (at_ + 2 ^ bigM at_ e) e else []
termination_by e - at_
decreasing_by
  have := Nat.two_pow_pos (bigM at_ e)
  omega
def preS (S : List Sn) : List Bk := S.flatMap (fun x => preG x.1 x.2)
theorem preG_none {at_ e : Nat} (h : ¬ at_ < e) : preG at_ e = [] := by rw [preG, dif_neg h]
theorem preG_some {at_ e : Nat} (h : at_ < e) : preG at_ e = (at_, bigM at_ e) :: preG (at_ + 2 ^ bigM at_ e) e := by rw [preG, dif_pos h]
/-- The blocks of a range: they lie one behind the other, are aligned, and fill it. -/
theorem preG_law : ∀ (k at_ e : Nat), e - at_ ≤ k → (∀ n, hasS ((preG at_ e).map bkS) n ↔ at_ ≤ n ∧ n < e) ∧ (∀ b ∈ preG at_ e, alB b ∧ b.2 ≤ 128 ∧ at_ ≤ b.1 ∧ b.1 + 2 ^ b.2 ≤ e) ∧ (preG at_ e).Pairwise (fun b c => b.1 + 2 ^ b.2 ≤ c.1)
  | k, at_, e, hk => by
    by_cases h : at_ < e
    · obtain ⟨m1, m2, m3⟩ := bigM_law h
      have hp := Nat.two_pow_pos (bigM at_ e)
      obtain ⟨j, rfl⟩ : ∃ j, k = j + 1 := ⟨k - 1, by omega⟩
      obtain ⟨r1, r2, r3⟩ := preG_law j (at_ + 2 ^ bigM at_ e) e (by omega)
      rw [preG_some h]
      refine ⟨fun n => ?_, fun b hb => ?_, List.pairwise_cons.2 ⟨fun c hc => (r2 c hc).2.2.1, r3⟩⟩
      · rw [List.map_cons, hasS_cons, r1 n]
        show (at_ ≤ n ∧ n < at_ + 2 ^ bigM at_ e) ∨ _ ↔ _
        omega
      · rcases List.mem_cons.1 hb with rfl | hb
        · exact ⟨m1, m3, Nat.le_refl _, m2⟩
        · obtain ⟨a1, a2, a3, a4⟩ := r2 b hb
          exact ⟨a1, a2, by omega, a4⟩
    · rw [preG_none h]
      exact ⟨fun n => ⟨fun hh => absurd hh (hasS_nil n), fun hh => by omega⟩, (by intro b hb; cases hb), List.Pairwise.nil⟩
theorem preG_has (at_ e n : Nat) : hasS ((preG at_ e).map bkS) n ↔ at_ ≤ n ∧ n < e := (preG_law _ at_ e (Nat.le_refl _)).1 n
theorem preG_in {at_ e : Nat} {b : Bk} (h : b ∈ preG at_ e) : alB b ∧ b.2 ≤ 128 ∧ at_ ≤ b.1 ∧ b.1 + 2 ^ b.2 ≤ e := (preG_law _ at_ e (Nat.le_refl _)).2.1 b h
theorem preS_has {S : List Sn} (n : Nat) : hasS ((preS S).map bkS) n ↔ hasS S n := by
  induction S with
  | nil => exact Iff.rfl
  | cons x S ih =>
    have e : preS (x :: S) = preG x.1 x.2 ++ preS S := rfl
    rw [e, List.map_append, hasS_append, preG_has, ih, hasS_cons]
theorem preS_in {S : List Sn} {b : Bk} (h : b ∈ preS S) : ∃ x ∈ S, b ∈ preG x.1 x.2 := List.mem_flatMap.1 h
theorem preS_sorted {S : List Sn} (hS : NormS S) : (preS S).Pairwise (fun b c => b.1 + 2 ^ b.2 ≤ c.1) := by
  induction S with
  | nil => exact List.Pairwise.nil
  | cons x S ih =>
    have e : preS (x :: S) = preG x.1 x.2 ++ preS S := rfl
    rw [e]
    refine List.pairwise_append.2 ⟨(preG_law _ x.1 x.2 (Nat.le_refl _)).2.2, ih hS.tail, fun b hb c hc => ?_⟩
    have h1 := (preG_in hb).2.2.2
    obtain ⟨y, hy, hc⟩ := preS_in hc
    have h2 := (preG_in hc).2.2.1
    have h3 := (List.pairwise_cons.1 hS.gap).1 y hy
    omega
/-! ### there is no shorter row -/
/-- Two aligned blocks that meet: the smaller one lies in the larger one. -/
theorem nest {b c : Bk} (hb : alB b) (hc : alB c) (hm : b.2 ≤ c.2) {n : Nat} (h1 : b.1 ≤ n ∧ n < b.1 + 2 ^ b.2) (h2 : c.1 ≤ n ∧ n < c.1 + 2 ^ c.2) : c.1 ≤ b.1 ∧ b.1 + 2 ^ b.2 ≤ c.1 + 2 ^ c.2 := by
  obtain ⟨f, m⟩ := b
  obtain ⟨g, k⟩ := c
  unfold alB at *
  dsimp only at *
  obtain ⟨p, rfl⟩ := hb
  obtain ⟨q, rfl⟩ := hc
  obtain ⟨d, rfl⟩ : ∃ d, k = m + d := ⟨k - m, by omega⟩
  have hp := Nat.two_pow_pos m
  rw [Nat.pow_add, Nat.mul_assoc] at h2 ⊢
  generalize hM : 2 ^ m = M at *
  generalize hD : 2 ^ d = D at *
  -- in units of M
  have e1 : n / M = p := Nat.div_eq_of_lt_le (by rw [Nat.mul_comm]; exact h1.1) (by rw [Nat.add_mul, Nat.mul_comm p M]; omega)
  have a1 : M * (D * q) ≤ n := h2.1
  have a2 : n < M * (D * q + D) := by rw [Nat.mul_add]; exact h2.2
  have b1 : D * q ≤ n / M := (Nat.le_div_iff_mul_le hp).2 (by rw [Nat.mul_comm]; exact a1)
  have b2 : n / M < D * q + D := (Nat.div_lt_iff_lt_mul hp).2 (by rw [Nat.mul_comm]; exact a2)
  rw [e1] at b1 b2
  refine ⟨Nat.mul_le_mul_left M b1, ?_⟩
  have := Nat.mul_le_mul_left M (show p + 1 ≤ D * q + D by omega)
  rw [Nat.mul_add, Nat.mul_add, Nat.mul_one] at this
  exact this
/-- A block of a range is as large as any block within the range that it meets. -/
theorem preG_max : ∀ (k at_ e : Nat), e - at_ ≤ k → e ≤ at_ + 2 ^ 128 → ∀ b ∈ preG at_ e, ∀ d : Bk, alB d → at_ ≤ d.1 → d.1 + 2 ^ d.2 ≤ e → ∀ n, (b.1 ≤ n ∧ n < b.1 + 2 ^ b.2) → (d.1 ≤ n ∧ n < d.1 + 2 ^ d.2) → d.2 ≤ b.2
  | k, at_, e, hk, he, b, hb, d, hd, h1, h2, n, hn1, hn2 => by
    by_cases h : at_ < e
    · obtain ⟨m1, m2, m3⟩ := bigM_law h
      have hp := Nat.two_pow_pos (bigM at_ e)
      obtain ⟨j, rfl⟩ : ∃ j, k = j + 1 := ⟨k - 1, by omega⟩
      have hfirst : ∀ n', (at_ ≤ n' ∧ n' < at_ + 2 ^ bigM at_ e) → (d.1 ≤ n' ∧ n' < d.1 + 2 ^ d.2) → d.2 ≤ bigM at_ e := by
        intro n' q1 q2
        rcases Nat.lt_or_ge (bigM at_ e) d.2 with h3 | h3
        · have := nest (b := (at_, bigM at_ e)) (c := d) m1 hd (Nat.le_of_lt h3) q1 q2
          have e1 : d.1 = at_ := by have := this.1; dsimp only at this; omega
          exact bigM_max h he (by rw [← e1]; exact hd) (by rw [← e1]; exact h2)
        · exact h3
      rw [preG_some h] at hb
      rcases List.mem_cons.1 hb with rfl | hb
      · exact hfirst n hn1 hn2
      · rcases Nat.lt_or_ge d.1 (at_ + 2 ^ bigM at_ e) with h3 | h3
        · have hle := hfirst d.1 ⟨h1, h3⟩ ⟨Nat.le_refl _, by have := Nat.two_pow_pos d.2; omega⟩
          have := nest (b := d) (c := (at_, bigM at_ e)) hd m1 hle ⟨Nat.le_refl _, by have := Nat.two_pow_pos d.2; omega⟩ ⟨h1, h3⟩
          have hb1 := (preG_in hb).2.2.1
          have h5 := this.2
          dsimp only at h5
          omega
        · exact preG_max j (at_ + 2 ^ bigM at_ e) e (by omega) (by omega) b hb d hd h3 h2 n hn1 hn2
    · rw [preG_none h] at hb
      cases hb
/-- Points: pairwise apart ranges that each have a point of a list are no more than the points. -/
theorem points_le : ∀ (P : List Sn) (Q : List Nat), P.Pairwise (fun b c => b.2 ≤ c.1) → (∀ b ∈ P, ∃ q ∈ Q, b.1 ≤ q ∧ q < b.2) → P.length ≤ Q.length
  | [], _, _, _ => Nat.zero_le _
  | b :: P, Q, hp, h => by
    obtain ⟨p1, p2⟩ := List.pairwise_cons.1 hp
    obtain ⟨q, hq, hq1⟩ := h b (by simp)
    have := points_le P (Q.erase q) p2 (fun c hc => by
      obtain ⟨r, hr, hr1⟩ := h c (by simp [hc])
      have := p1 c hc
      exact ⟨r, (List.mem_erase_of_ne (by omega)).2 hr, hr1⟩)
    rw [List.length_erase_of_mem hq] at this
    have hl := List.length_pos_of_mem hq
    rw [List.length_cons]
    omega
/-- A connected run of a set lies in one of its ranges. -/
theorem run_in {S : List Sn} (hS : NormS S) {x : Sn} (hx : x ∈ S) {f e : Nat} (hall : ∀ n, f ≤ n → n < e → hasS S n) {p : Nat} (h1 : f ≤ p ∧ p < e) (h2 : x.1 ≤ p ∧ p < x.2) : x.1 ≤ f ∧ e ≤ x.2 := by
  have hne : ∀ n, hasS S n → ¬ n = x.2 ∧ (n + 1 = x.1 → False) := by
    rintro n ⟨y, hy, hy1, hy2⟩
    have hok := hS.ok y hy
    have hxo := hS.ok x hx
    obtain ⟨i, hi, rfl⟩ := List.getElem_of_mem hx
    obtain ⟨j, hj, rfl⟩ := List.getElem_of_mem hy
    rcases Nat.lt_trichotomy i j with h | h | h
    · have := List.pairwise_iff_getElem.1 hS.gap i j hi hj h
      exact ⟨by omega, by omega⟩
    · subst h
      exact ⟨by omega, by omega⟩
    · have := List.pairwise_iff_getElem.1 hS.gap j i hj hi h
      exact ⟨by omega, by omega⟩
  constructor
  · rcases Nat.lt_or_ge f x.1 with h | h
    · exact False.elim ((hne (x.1 - 1) (hall _ (by omega) (by omega))).2 (by omega))
    · exact h
  · rcases Nat.lt_or_ge x.2 e with h | h
    · exact absurd rfl (hne x.2 (hall _ (by omega) h)).1
    · exact h
/-- The least row. -/
theorem preS_least {S : List Sn} (hS : NormS S) (hb : ∀ x ∈ S, x.2 ≤ x.1 + 2 ^ 128) {B : List Bk} (hB : ∀ b ∈ B, alB b) (h : ∀ n, hasS (B.map bkS) n ↔ hasS S n) : (preS S).length ≤ B.length := by
  have := points_le ((preS S).map bkS) (B.map (fun b => b.1)) (by
    rw [List.pairwise_map]
    exact preS_sorted hS) (fun c hc => by
    obtain ⟨b, hbm, rfl⟩ := List.mem_map.1 hc
    obtain ⟨x, hx, hbx⟩ := preS_in hbm
    obtain ⟨a1, a2, a3, a4⟩ := preG_in hbx
    have hp := Nat.two_pow_pos b.2
    have hin : hasS (B.map bkS) b.1 := (h _).2 ⟨x, hx, a3, by omega⟩
    obtain ⟨y, hy, hy1, hy2⟩ := hin
    obtain ⟨d, hd, rfl⟩ := List.mem_map.1 hy
    have hdx := run_in hS hx (f := d.1) (e := d.1 + 2 ^ d.2) (fun n q1 q2 => (h n).1 ⟨bkS d, List.mem_map.2 ⟨d, hd, rfl⟩, q1, q2⟩) (p := b.1) ⟨hy1, hy2⟩ ⟨a3, by omega⟩
    have hle := preG_max _ x.1 x.2 (Nat.le_refl _) (hb x hx) b hbx d (hB d hd) hdx.1 hdx.2 b.1 ⟨Nat.le_refl _, by omega⟩ ⟨hy1, hy2⟩
    have hn := nest (hB d hd) a1 hle ⟨hy1, hy2⟩ ⟨Nat.le_refl _, by omega⟩
    refine ⟨d.1, List.mem_map.2 ⟨d, hd, rfl⟩, hn.1, ?_⟩
    have := Nat.two_pow_pos d.2
    show d.1 < b.1 + 2 ^ b.2
    omega)
  rwa [List.length_map, List.length_map] at this
end Go.Proofs.YtajifionclpphaaGreatDoor

namespace Go.Proofs.YtajifionclpphaaGreatDoor
theorem bk_pos (m : Nat) : 0 < 2 ^ m := Nat.two_pow_pos m
/-- A block without another one: its halves are taken as long as need be. -/
def cutB : Nat → Nat → Bk → List Bk
  | 0, f, p => if p.1 ≤ f ∧ f + 1 ≤ p.1 + 2 ^ p.2 then [] else [(f, 0)]
  | m + 1, f, p => if p.1 ≤ f ∧ f + 2 ^ (m + 1) ≤ p.1 + 2 ^ p.2 then [] else if p.1 + 2 ^ p.2 ≤ f ∨ f + 2 ^ (m + 1) ≤ p.1 then [(f, m + 1)] else cutB m f p ++ cutB m (f + 2 ^ m) p
theorem half_al {m f : Nat} (h : 2 ^ (m + 1) ∣ f) : 2 ^ m ∣ f ∧ 2 ^ m ∣ f + 2 ^ m := by
  have h1 : 2 ^ m ∣ f := Nat.dvd_trans (Nat.pow_dvd_pow 2 (by omega)) h
  exact ⟨h1, Nat.dvd_add h1 (Nat.dvd_refl _)⟩
theorem cutB_law : ∀ (m f : Nat) (p : Bk), 2 ^ m ∣ f → (∀ n, hasS ((cutB m f p).map bkS) n ↔ (f ≤ n ∧ n < f + 2 ^ m) ∧ ¬ (p.1 ≤ n ∧ n < p.1 + 2 ^ p.2)) ∧ (∀ b ∈ cutB m f p, alB b ∧ b.2 ≤ m ∧ f ≤ b.1 ∧ b.1 + 2 ^ b.2 ≤ f + 2 ^ m) ∧ (cutB m f p).Pairwise (fun b c => b.1 + 2 ^ b.2 ≤ c.1)
  | 0, f, p, h => by
    have hp := bk_pos p.2
    unfold cutB
    by_cases hc : p.1 ≤ f ∧ f + 1 ≤ p.1 + 2 ^ p.2
    · rw [if_pos hc]
      refine ⟨fun n => ⟨fun hh => absurd hh (hasS_nil n), fun hh => ?_⟩, (by intro b hb; cases hb), List.Pairwise.nil⟩
      simp at hh
      omega
    · rw [if_neg hc]
      refine ⟨fun n => ?_, fun b hb => ?_, by simp⟩
      · rw [List.map_cons, hasS_cons]
        show (f ≤ n ∧ n < f + 2 ^ 0) ∨ hasS [] n ↔ _
        constructor
        · rintro (h1 | h1)
          · refine ⟨h1, fun h2 => hc ?_⟩
            have : n = f := by simp at h1; omega
            omega
          · exact absurd h1 (hasS_nil n)
        · intro h1; exact .inl h1.1
      · simp at hb
        rw [hb]
        exact ⟨h, Nat.le_refl _, Nat.le_refl _, Nat.le_refl _⟩
  | m + 1, f, p, h => by
    have hp := bk_pos p.2
    obtain ⟨a1, a2⟩ := half_al h
    have e2 : 2 ^ (m + 1) = 2 ^ m + 2 ^ m := by rw [Nat.pow_succ]; omega
    unfold cutB
    by_cases hc : p.1 ≤ f ∧ f + 2 ^ (m + 1) ≤ p.1 + 2 ^ p.2
    · rw [if_pos hc]
      refine ⟨fun n => ⟨fun hh => absurd hh (hasS_nil n), fun hh => ?_⟩, (by intro b hb; cases hb), List.Pairwise.nil⟩
      omega
    · rw [if_neg hc]
      by_cases hd : p.1 + 2 ^ p.2 ≤ f ∨ f + 2 ^ (m + 1) ≤ p.1
      · rw [if_pos hd]
        refine ⟨fun n => ?_, fun b hb => ?_, by simp⟩
        · rw [List.map_cons, hasS_cons]
          show (f ≤ n ∧ n < f + 2 ^ (m + 1)) ∨ hasS [] n ↔ _
          constructor
          · rintro (h1 | h1)
            · exact ⟨h1, fun h2 => by omega⟩
            · exact absurd h1 (hasS_nil n)
          · intro h1; exact .inl h1.1
        · simp at hb
          rw [hb]
          exact ⟨h, Nat.le_refl _, Nat.le_refl _, Nat.le_refl _⟩
      · rw [if_neg hd]
        obtain ⟨q1, q2, q3⟩ := cutB_law m f p a1
        obtain ⟨r1, r2, r3⟩ := cutB_law m (f + 2 ^ m) p a2
        refine ⟨fun n => ?_, fun b hb => ?_, List.pairwise_append.2 ⟨q3, r3, fun b hb c hc => ?_⟩⟩
        · rw [List.map_append, hasS_append, q1 n, r1 n, e2]
          constructor
          · rintro (⟨h1, h2⟩ | ⟨h1, h2⟩)
            · exact ⟨by omega, h2⟩
            · exact ⟨by omega, h2⟩
          · rintro ⟨h1, h2⟩
            by_cases h3 : n < f + 2 ^ m
            · exact .inl ⟨⟨h1.1, h3⟩, h2⟩
            · exact .inr ⟨by omega, h2⟩
        · rw [e2]
          rcases List.mem_append.1 hb with hb | hb
          · obtain ⟨b1, b2, b3, b4⟩ := q2 b hb
            exact ⟨b1, by omega, b3, by omega⟩
          · obtain ⟨b1, b2, b3, b4⟩ := r2 b hb
            exact ⟨b1, by omega, by omega, by omega⟩
        · have h1 := (q2 b hb).2.2.2
          have h2 := (r2 c hc).2.2.1
          omega
theorem cutB_apart {m f : Nat} {p : Bk} (h : p.1 + 2 ^ p.2 ≤ f ∨ f + 2 ^ m ≤ p.1) : (cutB m f p).length ≤ 1 := by
  have hp := bk_pos p.2
  have hm := bk_pos m
  cases m with
  | zero =>
    unfold cutB
    split <;> simp
  | succ m =>
    unfold cutB
    rw [if_neg (by omega), if_pos h]
    simp
/-- Where the other block meets it, there are at most as many as it has bits. -/
theorem cutB_len : ∀ (m f : Nat) (p : Bk), 2 ^ m ∣ f → alB p → ¬ (p.1 + 2 ^ p.2 ≤ f ∨ f + 2 ^ m ≤ p.1) → (cutB m f p).length ≤ m
  | 0, f, p, h, hp, hd => by
    have hpp := bk_pos p.2
    unfold cutB
    rw [if_pos (by simp at hd; omega)]
    simp
  | m + 1, f, p, h, hp, hd => by
    obtain ⟨a1, a2⟩ := half_al h
    have hpp := bk_pos p.2
    have hm := bk_pos m
    have e2 : 2 ^ (m + 1) = 2 ^ m + 2 ^ m := by rw [Nat.pow_succ]; omega
    unfold cutB
    by_cases hc : p.1 ≤ f ∧ f + 2 ^ (m + 1) ≤ p.1 + 2 ^ p.2
    · rw [if_pos hc]; exact Nat.zero_le _
    · rw [if_neg hc, if_neg hd, List.length_append]
      -- p is smaller, so it lies in one half
      have hlt : p.2 ≤ m := by
        rcases Nat.lt_or_ge m p.2 with h3 | h3
        · have := nest (b := (f, m + 1)) (c := p) h hp h3 (n := max f p.1) ⟨by show f ≤ _; omega, by show _ < f + 2 ^ (m + 1); omega⟩ ⟨by omega, by omega⟩
          exact absurd this hc
        · exact h3
      by_cases hl : f + 2 ^ m ≤ p.1
      · have h1 := cutB_apart (m := m) (f := f) (p := p) (.inr hl)
        have h2 := cutB_len m (f + 2 ^ m) p a2 hp (by omega)
        omega
      · have hin : p.1 + 2 ^ p.2 ≤ f + 2 ^ m := by
          by_cases hs : p.1 < f
          · have := nest (b := p) (c := (f, m + 1)) hp h (by show p.2 ≤ m + 1; omega) (n := f) ⟨by omega, by omega⟩ ⟨Nat.le_refl _, by show f < f + 2 ^ (m + 1); omega⟩
            have := this.1
            dsimp only at this
            omega
          · have := nest (b := p) (c := (f, m)) hp a1 hlt (n := p.1) ⟨Nat.le_refl _, by omega⟩ ⟨by show f ≤ p.1; omega, by show p.1 < f + 2 ^ m; omega⟩
            exact this.2
        have h1 := cutB_apart (m := m) (f := f + 2 ^ m) (p := p) (.inl hin)
        have h2 := cutB_len m f p a1 hp (by omega)
        omega
def cutL (L : List Bk) (p : Bk) : List Bk := L.flatMap (fun c => cutB c.2 c.1 p)
/-- A row of blocks that lie one behind the other. -/
structure RowB (L : List Bk) : Prop where
  al : ∀ b ∈ L, alB b ∧ b.2 ≤ 128
  ord : L.Pairwise (fun b c => b.1 + 2 ^ b.2 ≤ c.1)
theorem RowB.tail {c : Bk} {L : List Bk} (h : RowB (c :: L)) : RowB L := ⟨fun b hb => h.al b (by simp [hb]), (List.pairwise_cons.1 h.ord).2⟩
theorem cutL_law {L : List Bk} (h : RowB L) (p : Bk) : (∀ n, hasS ((cutL L p).map bkS) n ↔ hasS (L.map bkS) n ∧ ¬ (p.1 ≤ n ∧ n < p.1 + 2 ^ p.2)) ∧ RowB (cutL L p) ∧ ∀ b ∈ cutL L p, ∃ c ∈ L, c.1 ≤ b.1 ∧ b.1 + 2 ^ b.2 ≤ c.1 + 2 ^ c.2 := by
  induction L with
  | nil => exact ⟨fun n => ⟨fun hh => absurd hh (hasS_nil n), fun hh => absurd hh.1 (hasS_nil n)⟩, ⟨(by intro b hb; cases hb), List.Pairwise.nil⟩, (by intro b hb; cases hb)⟩
  | cons c L ih =>
    obtain ⟨i1, i2, i3⟩ := ih h.tail
    obtain ⟨q1, q2, q3⟩ := cutB_law c.2 c.1 p (h.al c (by simp)).1
    have hc := (h.al c (by simp)).2
    have e : cutL (c :: L) p = cutB c.2 c.1 p ++ cutL L p := rfl
    rw [e]
    refine ⟨fun n => ?_, ⟨fun b hb => ?_, List.pairwise_append.2 ⟨q3, i2.ord, fun b hb d hd => ?_⟩⟩, fun b hb => ?_⟩
    · rw [List.map_append, hasS_append, q1 n, i1 n, List.map_cons, hasS_cons]
      show (c.1 ≤ n ∧ n < c.1 + 2 ^ c.2) ∧ _ ∨ _ ↔ ((c.1 ≤ n ∧ n < c.1 + 2 ^ c.2) ∨ _) ∧ _
      constructor
      · rintro (⟨h1, h2⟩ | ⟨h1, h2⟩)
        · exact ⟨.inl h1, h2⟩
        · exact ⟨.inr h1, h2⟩
      · rintro ⟨h1 | h1, h2⟩
        · exact .inl ⟨h1, h2⟩
        · exact .inr ⟨h1, h2⟩
    · rcases List.mem_append.1 hb with hb | hb
      · have := q2 b hb
        exact ⟨this.1, by omega⟩
      · exact i2.al b hb
    · obtain ⟨x, hx, hx1, hx2⟩ := i3 d hd
      have h1 := (q2 b hb).2.2.2
      have h2 := (List.pairwise_cons.1 h.ord).1 x hx
      omega
    · rcases List.mem_append.1 hb with hb | hb
      · exact ⟨c, by simp, (q2 b hb).2.2⟩
      · obtain ⟨x, hx, hx1⟩ := i3 b hb
        exact ⟨x, by simp [hx], hx1⟩
theorem cutL_apart {L : List Bk} {p : Bk} (h : ∀ c ∈ L, p.1 + 2 ^ p.2 ≤ c.1 ∨ c.1 + 2 ^ c.2 ≤ p.1) : (cutL L p).length ≤ L.length := by
  induction L with
  | nil => exact Nat.zero_le _
  | cons c L ih =>
    have e : cutL (c :: L) p = cutB c.2 c.1 p ++ cutL L p := rfl
    rw [e, List.length_append, List.length_cons]
    have h1 := cutB_apart (h c (by simp))
    have h2 := ih (fun d hd => h d (by simp [hd]))
    omega
theorem cutB_cover {m f : Nat} {p : Bk} (h : p.1 ≤ f ∧ f + 2 ^ m ≤ p.1 + 2 ^ p.2) : cutB m f p = [] := by
  cases m with
  | zero => unfold cutB; rw [if_pos (by simpa using h)]
  | succ m => unfold cutB; rw [if_pos h]
theorem cutL_len {L : List Bk} (h : RowB L) {p : Bk} (hp : alB p) : (cutL L p).length ≤ L.length + 127 := by
  induction L with
  | nil => exact Nat.zero_le _
  | cons c L ih =>
    have hc := h.al c (by simp)
    have hpp := bk_pos p.2
    have hcc := bk_pos c.2
    have e : cutL (c :: L) p = cutB c.2 c.1 p ++ cutL L p := rfl
    rw [e, List.length_append, List.length_cons]
    have h2 := ih h.tail
    by_cases hd : p.1 + 2 ^ p.2 ≤ c.1 ∨ c.1 + 2 ^ c.2 ≤ p.1
    · have h1 := cutB_apart hd
      omega
    · rcases Nat.lt_or_ge p.2 c.2 with h3 | h3
      · -- it lies in c: all others are apart
        have hin := nest (b := p) (c := c) hp hc.1 (Nat.le_of_lt h3) (n := max c.1 p.1) ⟨by omega, by omega⟩ ⟨by omega, by omega⟩
        have h4 := cutL_apart (L := L) (p := p) (fun d hd => .inl (by have := (List.pairwise_cons.1 h.ord).1 d hd; omega))
        have h5 := cutB_len c.2 c.1 p hc.1 hp hd
        have := hc.2
        omega
      · have hin := nest (b := c) (c := p) hc.1 hp h3 (n := max c.1 p.1) ⟨by omega, by omega⟩ ⟨by omega, by omega⟩
        rw [cutB_cover hin]
        simp only [List.length_nil]
        omega
/-- All blocks of a list are taken away. -/
theorem cutAll_law : ∀ (P L : List Bk), RowB L → (∀ p ∈ P, alB p) → (∀ n, hasS ((P.foldl cutL L).map bkS) n ↔ hasS (L.map bkS) n ∧ ¬ hasS (P.map bkS) n) ∧ RowB (P.foldl cutL L) ∧ (P.foldl cutL L).length ≤ L.length + 127 * P.length
  | [], L, h, _ => ⟨fun n => ⟨fun hh => ⟨hh, hasS_nil n⟩, fun hh => hh.1⟩, h, Nat.le_refl _⟩
  | p :: P, L, h, ha => by
    obtain ⟨q1, q2, _⟩ := cutL_law h p
    obtain ⟨r1, r2, r3⟩ := cutAll_law P (cutL L p) q2 (fun x hx => ha x (by simp [hx]))
    have hl := cutL_len h (ha p (by simp))
    refine ⟨fun n => ?_, r2, by rw [List.foldl_cons, List.length_cons]; omega⟩
    rw [List.foldl_cons, r1 n, q1 n, List.map_cons, hasS_cons]
    show (_ ∧ ¬ (p.1 ≤ n ∧ n < p.1 + 2 ^ p.2)) ∧ _ ↔ _ ∧ ¬ ((p.1 ≤ n ∧ n < p.1 + 2 ^ p.2) ∨ _)
    constructor
    · rintro ⟨⟨h1, h2⟩, h3⟩
      exact ⟨h1, fun h4 => h4.elim h2 h3⟩
    · rintro ⟨h1, h2⟩
      exact ⟨⟨h1, fun h3 => h2 (.inl h3)⟩, fun h3 => h2 (.inr h3)⟩
/-- Blocks of both lists. -/
def insB (b c : Bk) : Bool := decide (c.1 ≤ b.1 ∧ b.1 + 2 ^ b.2 ≤ c.1 + 2 ^ c.2)
def meetL (a b : List Bk) : List Bk := a.filter (fun x => b.any (insB x)) ++ b.filter (fun y => a.any (insB y))
theorem meetL_law {a b : List Bk} (ha : ∀ x ∈ a, alB x) (hb : ∀ x ∈ b, alB x) : (∀ n, hasS ((meetL a b).map bkS) n ↔ hasS (a.map bkS) n ∧ hasS (b.map bkS) n) ∧ (∀ x ∈ meetL a b, alB x) ∧ (meetL a b).length ≤ a.length + b.length := by
  have hside : ∀ (a b : List Bk) n, hasS ((a.filter (fun x => b.any (insB x))).map bkS) n → hasS (a.map bkS) n ∧ hasS (b.map bkS) n := by
    rintro a b n ⟨z, hz, h1, h2⟩
    obtain ⟨x, hx, rfl⟩ := List.mem_map.1 hz
    obtain ⟨hx, hany⟩ := List.mem_filter.1 hx
    obtain ⟨y, hy, hi⟩ := List.any_eq_true.1 hany
    unfold insB at hi
    have hi := of_decide_eq_true hi
    refine ⟨⟨bkS x, List.mem_map.2 ⟨x, hx, rfl⟩, h1, h2⟩, ⟨bkS y, List.mem_map.2 ⟨y, hy, rfl⟩, ?_, ?_⟩⟩
    · show y.1 ≤ n
      exact Nat.le_trans hi.1 h1
    · show n < y.1 + 2 ^ y.2
      exact Nat.lt_of_lt_of_le h2 hi.2
  refine ⟨fun n => ?_, fun x hx => ?_, ?_⟩
  · unfold meetL
    rw [List.map_append, hasS_append]
    constructor
    · rintro (h | h)
      · exact hside a b n h
      · exact (hside b a n h).symm
    · rintro ⟨⟨z, hz, h1, h2⟩, ⟨u, hu, h3, h4⟩⟩
      obtain ⟨x, hx, rfl⟩ := List.mem_map.1 hz
      obtain ⟨y, hy, rfl⟩ := List.mem_map.1 hu
      rcases Nat.le_total x.2 y.2 with hm | hm
      · have := nest (ha x hx) (hb y hy) hm ⟨h1, h2⟩ ⟨h3, h4⟩
        exact .inl ⟨bkS x, List.mem_map.2 ⟨x, List.mem_filter.2 ⟨hx, List.any_eq_true.2 ⟨y, hy, decide_eq_true this⟩⟩, rfl⟩, h1, h2⟩
      · have := nest (hb y hy) (ha x hx) hm ⟨h3, h4⟩ ⟨h1, h2⟩
        exact .inr ⟨bkS y, List.mem_map.2 ⟨y, List.mem_filter.2 ⟨hy, List.any_eq_true.2 ⟨x, hx, decide_eq_true this⟩⟩, rfl⟩, h3, h4⟩
  · rcases List.mem_append.1 hx with h | h
    · exact ha x (List.mem_filter.1 h).1
    · exact hb x (List.mem_filter.1 h).1
  · unfold meetL
    rw [List.length_append]
    have h1 := List.length_filter_le (fun x => b.any (insB x)) a
    have h2 := List.length_filter_le (fun y => a.any (insB y)) b
    omega
end Go.Proofs.YtajifionclpphaaGreatDoor
