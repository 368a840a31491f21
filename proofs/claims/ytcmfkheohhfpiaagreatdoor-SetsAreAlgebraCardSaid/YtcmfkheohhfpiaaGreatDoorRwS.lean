/- Insertion sort, as lists. -/
import Derived.Test.YtcmfkheohhfpiaaGreatDoorRwB
namespace Go.Proofs.YtcmfkheohhfpiaaGreatDoor
section
variable {α : Type}
def insR (lt : α → α → Bool) (x : α) : List α → List α
  | [] => [x]
  | y :: ys => if lt x y then y :: insR lt x ys else x :: y :: ys
def isortR (lt : α → α → Bool) (L : List α) : List α := L.foldl (fun acc x => insR lt x acc) []
/-- What insertion sort makes of a list. -/
def isortL (lt : α → α → Bool) (L : List α) : List α := (isortR lt L).reverse
theorem insR_length (lt : α → α → Bool) (x : α) (L : List α) : (insR lt x L).length = L.length + 1 := by
  induction L with
  | nil => rfl
  | cons y ys ih =>
    unfold insR
    split
    · simp [ih]
    · simp
theorem insR_mem {lt : α → α → Bool} {x z : α} {L : List α} : z ∈ insR lt x L ↔ z = x ∨ z ∈ L := by
  induction L with
  | nil => simp [insR]
  | cons y ys ih =>
    unfold insR
    split
    · simp [ih]; constructor <;> (intro h; rcases h with h | h | h <;> simp [h])
    · simp
theorem isortR_snoc (lt : α → α → Bool) (L : List α) (x : α) : isortR lt (L ++ [x]) = insR lt x (isortR lt L) := by
  unfold isortR
  rw [List.foldl_append]
  rfl
theorem isortL_snoc (lt : α → α → Bool) (L : List α) (x : α) : isortL lt (L ++ [x]) = (insR lt x (isortL lt L).reverse).reverse := by
  unfold isortL
  rw [isortR_snoc, List.reverse_reverse]
theorem isortR_rev {lt : α → α → Bool} : ∀ (n : Nat) (L : List α), L.length = n → (isortR lt L).length = n ∧ ∀ z, z ∈ isortR lt L ↔ z ∈ L := by
  intro n
  induction n with
  | zero =>
    intro L h
    have : L = [] := List.length_eq_zero_iff.1 h
    subst this
    exact ⟨rfl, fun z => Iff.rfl⟩
  | succ n ih =>
    intro L h
    have hne : L ≠ [] := fun e => by rw [e] at h; simp at h
    obtain ⟨L', x, rfl⟩ : ∃ L' x, L = L' ++ [x] := ⟨L.dropLast, L.getLast hne, (List.dropLast_concat_getLast hne).symm⟩
    have h' : L'.length = n := by simpa using h
    obtain ⟨h1, h2⟩ := ih L' h'
    rw [isortR_snoc]
    refine ⟨by rw [insR_length, h1], fun z => ?_⟩
    rw [insR_mem, h2, List.mem_append, List.mem_singleton]
    exact Or.comm
theorem isortL_length (lt : α → α → Bool) (L : List α) : (isortL lt L).length = L.length := by
  unfold isortL
  rw [List.length_reverse, (isortR_rev _ L rfl).1]
theorem isortL_mem {lt : α → α → Bool} {L : List α} {z : α} : z ∈ isortL lt L ↔ z ∈ L := by
  unfold isortL
  rw [List.mem_reverse, (isortR_rev _ L rfl).2]
theorem insR_pass {lt : α → α → Bool} {x : α} (R : List α) : ∀ B : List α, (∀ z ∈ B, lt x z = true) → insR lt x (B ++ R) = B ++ insR lt x R
  | [], _ => rfl
  | z :: B, h => by
    have e : insR lt x (z :: (B ++ R)) = z :: insR lt x (B ++ R) := by simp [insR, h z]
    rw [List.cons_append, e, insR_pass R B (fun y hy => h y (by simp [hy])), List.cons_append]
/-- Where the new one comes to lie. -/
theorem ins_at {lt : α → α → Bool} {x : α} {A B : List α} (hB : ∀ z ∈ B, lt x z = true) (hA : ∀ y, A.getLast? = some y → lt x y = false) : (insR lt x (A ++ B).reverse).reverse = A ++ x :: B := by
  rw [List.reverse_append, insR_pass _ _ (fun z hz => hB z (by simpa using hz))]
  have : insR lt x A.reverse = x :: A.reverse := by
    rcases List.eq_nil_or_concat A with h | ⟨A', y, h⟩
    · subst h; rfl
    · rw [List.concat_eq_append] at h
      subst h
      have := hA y (by simp)
      simp [insR, this]
  rw [this]
  simp
/-- The swap. -/
theorem swap_at (A : List α) (x y : α) (B : List α) : (((A ++ y :: x :: B).set (A.length + 1) y).set A.length x) = A ++ x :: y :: B := by
  rw [List.set_append_right _ _ (by omega), List.set_append_right _ _ (by omega)]
  simp
theorem at_here (A : List α) (x : α) (B : List α) (d : α) : (A ++ x :: B).getD A.length d = x := by
  rw [List.getD_eq_getElem?_getD, List.getElem?_append_right (Nat.le_refl _)]
  simp
theorem take_succ' {L : List α} {i : Nat} (d : α) (h : i < L.length) : L.take (i + 1) = L.take i ++ [L.getD i d] := by
  rw [List.take_succ_eq_append_getElem h, List.getD_eq_getElem?_getD, List.getElem?_eq_getElem h]
  rfl
theorem drop_cons' {L : List α} {i : Nat} (d : α) (h : i < L.length) : L.drop i = L.getD i d :: L.drop (i + 1) := by
  rw [List.drop_eq_getElem_cons h, List.getD_eq_getElem?_getD, List.getElem?_eq_getElem h]
  rfl
end
end Go.Proofs.YtcmfkheohhfpiaaGreatDoor
