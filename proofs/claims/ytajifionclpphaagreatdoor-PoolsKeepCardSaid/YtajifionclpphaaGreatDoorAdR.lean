/- Rows of structs, of whatever program: words that gen_row.py's texts use. Insertion sort, as lists. A struct that is stored whole, as one step. Addresses in memory. -/
import Derived.Test.YtajifionclpphaaGreatDoorAdS
import Derived.Lib.SliceRun
import Derived.Laws.OwnMore
import Derived.Laws.IdiomCopy
import Derived.Laws.Cells
namespace Go.Proofs.YtajifionclpphaaGreatDoor
open Go.RowKit Go.Hw

/-- The first place at which p holds, or -1. -/
def rwIdx {α : Type} (p : α → Bool) (xs : List α) : Int := match xs.findIdx? p with
  | some k => k
  | none => -1
theorem rwIdx_at {α : Type} {p : α → Bool} {xs : List α} {d : α} {k : Nat} (hk : k < xs.length) (h : ∀ j, j < k → p (xs.getD j d) = false) (ht : p (xs.getD k d) = true) : rwIdx p xs = k := by
  have : xs.findIdx? p = some k := by
    rw [List.findIdx?_eq_some_iff_getElem]
    refine ⟨hk, by simpa [List.getElem?_eq_getElem hk] using ht, fun j hj => ?_⟩
    have := h j hj
    simpa [List.getElem?_eq_getElem (Nat.lt_trans hj hk)] using this
  unfold rwIdx
  rw [this]
theorem rwIdx_none {α : Type} {p : α → Bool} {xs : List α} {d : α} (h : ∀ j, j < xs.length → p (xs.getD j d) = false) : rwIdx p xs = -1 := by
  have : xs.findIdx? p = none := by
    rw [List.findIdx?_eq_none_iff]
    intro x hx
    obtain ⟨j, hj, rfl⟩ := List.getElem_of_mem hx
    have := h j hj
    simpa [List.getElem?_eq_getElem hj] using this
  unfold rwIdx
  rw [this]
theorem rwIdx_any {α : Type} (p : α → Bool) (xs : List α) : (xs.any p = true ∧ 0 ≤ rwIdx p xs) ∨ (xs.any p = false ∧ rwIdx p xs = -1) := by
  unfold rwIdx
  cases h : xs.findIdx? p with
  | none =>
    right
    refine ⟨?_, rfl⟩
    rw [List.findIdx?_eq_none_iff] at h
    rw [List.any_eq_false]
    intro x hx
    simpa using h x hx
  | some k =>
    left
    refine ⟨?_, Int.natCast_nonneg _⟩
    obtain ⟨hk, hp, _⟩ := List.findIdx?_eq_some_iff_getElem.1 h
    rw [List.any_eq_true]
    exact ⟨_, List.getElem_mem hk, hp⟩
theorem rw_mem {α : Type} {L : List α} {i : Nat} {d : α} (hi : i < L.length) : L.getD i d ∈ L := by
  rw [List.getD_eq_getElem?_getD, List.getElem?_eq_getElem hi]
  exact List.getElem_mem hi

/-! Cells of a row of structs: c gives the n cells of one. -/
def rwC {α : Type} (c : α → List Value) (L : List α) : List Value := L.flatMap c
theorem rwC_cons {α : Type} (c : α → List Value) (x : α) (L : List α) : rwC c (x :: L) = c x ++ rwC c L := rfl
theorem rwC_length {α : Type} {c : α → List Value} {n : Nat} (hc : ∀ x, (c x).length = n) (L : List α) : (rwC c L).length = L.length * n := by
  induction L with
  | nil => simp [rwC]
  | cons x L ih => rw [rwC_cons, List.length_append, ih, hc, List.length_cons, Nat.succ_mul]; omega
theorem rwC_at {α : Type} {c : α → List Value} {n : Nat} {d : α} (hc : ∀ x, (c x).length = n) : ∀ (L : List α) (i j : Nat), i < L.length → j < n → (rwC c L)[i * n + j]? = (c (L.getD i d))[j]?
  | [], i, _, h, _ => by simp at h
  | x :: L, 0, j, _, hj => by
    rw [rwC_cons, List.getElem?_append_left (by rw [hc]; omega)]
    simp
  | x :: L, i + 1, j, h, hj => by
    have := rwC_at (d := d) hc L i j (by simpa using h) hj
    rw [rwC_cons, List.getElem?_append_right (by rw [hc, Nat.succ_mul]; omega)]
    rw [hc, show (i + 1) * n + j - n = i * n + j by rw [Nat.succ_mul]; omega, this]
    simp
/-- Many cells are laid, from o on. -/
def rwSets : List Value → Nat → List Value → List Value
  | xs, _, [] => xs
  | xs, o, v :: vs => rwSets (xs.set o v) (o + 1) vs
theorem rwSets_shift (a : List Value) {n : Nat} (ha : a.length = n) : ∀ (vs b : List Value) (k : Nat), rwSets (a ++ b) (n + k) vs = a ++ rwSets b k vs
  | [], _, _ => rfl
  | v :: vs, b, k => by
    unfold rwSets
    rw [List.set_append_right _ _ (by omega), ha, Nat.add_sub_cancel_left]
    exact rwSets_shift a ha vs (b.set k v) (k + 1)
theorem rwSets_whole : ∀ (vs a b : List Value) (p : List Value), a.length = vs.length → rwSets (p ++ a ++ b) p.length vs = p ++ vs ++ b
  | [], a, b, p, h => by
    have : a = [] := List.length_eq_zero_iff.1 h
    subst this
    simp [rwSets]
  | v :: vs, [], b, p, h => by simp at h
  | v :: vs, y :: a, b, p, h => by
    unfold rwSets
    have e : (p ++ (y :: a) ++ b).set p.length v = (p ++ [v]) ++ a ++ b := by
      rw [List.append_assoc, List.set_append_right _ _ (Nat.le_refl _)]
      simp
    rw [e]
    have := rwSets_whole vs a b (p ++ [v]) (by simpa using h)
    rw [List.length_append, List.length_singleton] at this
    rw [this]
    simp
theorem rwC_put {α : Type} {c : α → List Value} {n : Nat} (hc : ∀ x, (c x).length = n) : ∀ (M : List α) (i : Nat) (e : α), i < M.length → rwSets (rwC c M) (i * n) (c e) = rwC c (M.set i e)
  | [], _, _, h => by simp at h
  | x :: M, 0, e, _ => by
    have := rwSets_whole (c e) (c x) (rwC c M) [] (by rw [hc, hc])
    simpa [rwC_cons] using this
  | x :: M, i + 1, e, h => by
    rw [rwC_cons, List.set_cons_succ, rwC_cons, ← rwC_put hc M i e (by simpa using h), show (i + 1) * n = n + i * n by rw [Nat.succ_mul]; omega]
    exact rwSets_shift _ (hc x) _ _ _

/-! Blocks. -/
theorem rw_same {w w' : World} {base : Nat} {e : TypeId} {size : Nat} {v : Value} {n : Nat} {xs : List Value} (h : w.ownsRow base e size v n xs) (hk : ∀ k, v.ownBlock = some k → w'.heap[k]? = w.heap[k]?) : w'.ownsRow base e size v n xs := by
  refine ⟨h.1, ?_⟩
  rcases h.2 with hn | ⟨g, cap, cur, rfl, hb, hgg, rest⟩
  · exact .inl hn
  · exact .inr ⟨g, cap, cur, rfl, hb, (hk g rfl).trans hgg, rest⟩
theorem rw_gset {w w1 : World} {g : Nat} (h : w.grownBy w1 (some g)) (i : Nat) (v : Value) : w.grownBy (w1.setCell ⟨g, i, none⟩ v) (some g) :=
  ⟨h.os, h.tape, h.output, by have := h.size; simpa using this, fun k hk hne => (Below.heap_setCell _ _ _ _ (fun e => hne (by rw [show k = g from e]))).trans (h.block k hk hne)⟩
theorem rw_gsets {w : World} {g : Nat} : ∀ (vs : List Value) (o : Nat) (w1 : World), w.grownBy w1 (some g) → w.grownBy (w1.setCells g o vs) (some g)
  | [], _, _, h => h
  | v :: vs, o, _, h => rw_gsets vs (o + 1) _ (rw_gset h o v)
theorem rw_setCells {base : Nat} {T : TypeId} {size g cap n : Nat} : ∀ (vs : List Value) (o : Nat) (w : World) (xs : List Value), w.ownsRow base T size (.slice (some ⟨g, 0, none⟩) n cap) n xs →
    (w.setCells g o vs).ownsRow base T size (.slice (some ⟨g, 0, none⟩) n cap) n (rwSets xs o vs)
  | [], _, _, _, h => h
  | v :: vs, o, _, xs, h => rw_setCells vs (o + 1) _ (xs.set o v) (h.stored o v).1
/-- Element i of a row is laid anew. -/
theorem rw_put {α : Type} {c : α → List Value} {n : Nat} (hc : ∀ x, (c x).length = n) {w : World} {base g cap : Nat} {T : TypeId} {M : List α} (h : w.ownsRow base T n (.slice (some ⟨g, 0, none⟩) M.length cap) M.length (rwC c M)) (i : Nat) (e : α) (hi : i < M.length) :
    (w.setCells g (i * n) (c e)).ownsRow base T n (.slice (some ⟨g, 0, none⟩) (M.set i e).length cap) (M.set i e).length (rwC c (M.set i e)) := by
  rw [← rwC_put hc M i e hi, List.length_set]
  exact rw_setCells _ _ _ _ h
theorem rw_froz {w : World} {base g cap n size : Nat} {T : TypeId} {xs : List Value} (h : w.ownsRow base T size (.slice (some ⟨g, 0, none⟩) n cap) n xs) (j : Nat) : w.frozen? ⟨g, j, none⟩ = false := by
  rcases h.2 with ⟨h', _⟩ | ⟨g', cap', cur, h', hb, hg, hnc, hcm, hcs, ht⟩
  · simp at h'
  · simp only [Value.slice.injEq, Option.some.injEq, Addr.mk.injEq, and_true, true_and] at h'
    obtain ⟨rfl, rfl⟩ := h'
    simp [World.frozen?, hg]
theorem rw_some {w : World} {base g cap n size : Nat} {T : TypeId} {xs : List Value} (h : w.ownsRow base T size (.slice (some ⟨g, 0, none⟩) n cap) n xs) {j : Nat} (hj : j < n * size) : (w.cell? ⟨g, j, none⟩).isSome = true := by
  rcases h.2 with ⟨h', _⟩ | ⟨g', cap', cur, h', hb, hg, hnc, hcm, hcs, ht⟩
  · simp at h'
  · simp only [Value.slice.injEq, Option.some.injEq, Addr.mk.injEq, and_true, true_and] at h'
    obtain ⟨rfl, rfl⟩ := h'
    have := Nat.mul_le_mul_right size hnc
    simp [World.cell?, hg]
    omega
/-- The cells vs lie at g, from o on. -/
def RwCells (w : World) (g o : Nat) (vs : List Value) : Prop := ∀ j u, vs[j]? = some u → w.cell? ⟨g, o + j, none⟩ = some u
theorem RwCells.keep {w w' : World} {g o : Nat} {vs : List Value} (h : RwCells w g o vs) (hk : ∀ p : Addr, p.block = g → w'.cell? p = w.cell? p) : RwCells w' g o vs := fun j u hu => (hk _ rfl).trans (h j u hu)
/-- A row of structs lies at A (and is not ours). -/
def RwAt {α : Type} (c : α → List Value) (n : Nat) (d : α) (w : World) (A : Option Addr) (L : List α) : Prop := ∀ i, i < L.length → ∃ g off, A = some ⟨g, off, none⟩ ∧ g < w.heap.size ∧ RwCells w g (off + i * n) (c (L.getD i d))
theorem RwAt.below {α : Type} {c : α → List Value} {n : Nat} {d : α} {w w' : World} {A : Option Addr} {L : List α} (h : RwAt c n d w A L) (hb : Below w.heap.size w w') : RwAt c n d w' A L := fun i hi =>
  let ⟨g, off, h1, h2, h3⟩ := h i hi
  ⟨g, off, h1, Nat.lt_of_lt_of_le h2 hb.size, h3.keep fun p hp => hb.cell (by rw [hp]; exact h2)⟩
theorem RwAt.grown {α : Type} {c : α → List Value} {n : Nat} {d : α} {w w' : World} {A : Option Addr} {L : List α} {row : Option Nat} (h : RwAt c n d w A L) (hg : w.grownBy w' row) (hne : ∀ a, A = some a → some a.block ≠ row) : RwAt c n d w' A L := fun i hi =>
  let ⟨g, off, h1, h2, h3⟩ := h i hi
  ⟨g, off, h1, Nat.lt_of_lt_of_le h2 hg.size, h3.keep fun p hp => World.cell?_of_block (hg.block p.block (by rw [hp]; exact h2) (by rw [hp]; exact hne _ h1))⟩
theorem RwAt.kept {α : Type} {c : α → List Value} {n : Nat} {d : α} {w w' : World} {A : Option Addr} {L : List α} (h : RwAt c n d w A L) (hs : w.heap.size ≤ w'.heap.size) (hk : ∀ a, A = some a → a.block < w.heap.size → w'.heap[a.block]? = w.heap[a.block]?) : RwAt c n d w' A L := fun i hi =>
  let ⟨g, off, h1, h2, h3⟩ := h i hi
  ⟨g, off, h1, Nat.lt_of_lt_of_le h2 hs, h3.keep fun p hp => World.cell?_of_block (by rw [hp]; exact hk _ h1 h2)⟩
theorem rw_at {α : Type} {c : α → List Value} {n : Nat} {d : α} (hc : ∀ x, (c x).length = n) {w : World} {base : Nat} {T : TypeId} {v : Value} {L : List α} (h : w.ownsRow base T n v L.length (rwC c L)) : ∃ A cap, v = .slice A L.length cap ∧ RwAt c n d w A L := by
  have hlt := h.lt
  rcases h.2 with ⟨h1, h2⟩ | ⟨g, cap, cur, h1, _⟩
  · refine ⟨none, 0, by rw [h1, h2], fun i hi => by omega⟩
  · refine ⟨some ⟨g, 0, none⟩, cap, h1, fun i hi => ⟨g, 0, rfl, (hlt g (by rw [h1]; rfl)).2, ?_⟩⟩
    have hcl := fun j u hu => h.cells (g := g) (by rw [h1]; rfl) j u hu
    have hadd : ∀ j, (⟨g, 0, none⟩ : Addr).add j = ⟨g, 0 + j, none⟩ := fun j => by unfold Addr.add; split <;> simp_all
    intro j u hu
    have hj : j < n := by
      have := (List.getElem?_eq_some_iff.1 hu).1
      rwa [hc] at this
    have := hcl (i * n + j) u ((rwC_at hc L i j hi hj).trans hu)
    rwa [hadd, ← Nat.add_assoc] at this
theorem rw_at' {α : Type} {c : α → List Value} {n : Nat} {d : α} (hc : ∀ x, (c x).length = n) {w : World} {base : Nat} {T : TypeId} {A : Option Addr} {cap : Nat} {L : List α} (h : w.ownsRow base T n (.slice A L.length cap) L.length (rwC c L)) : RwAt c n d w A L := by
  obtain ⟨A', cap', e, hE⟩ := rw_at (d := d) hc h
  injection e with e1 _ e3
  rw [← e1] at hE
  exact hE

/-- The blocks that are not in F are as they were. -/
structure Rchg (F : Nat → Prop) (w w' : World) : Prop where
  os : w'.os = w.os
  tape : w'.tape = w.tape
  output : w'.output = w.output
  size : w.heap.size ≤ w'.heap.size
  block : ∀ k, k < w.heap.size → ¬ F k → w'.heap[k]? = w.heap[k]?
theorem Rchg.refl (F : Nat → Prop) (w : World) : Rchg F w w := ⟨rfl, rfl, rfl, Nat.le_refl _, fun _ _ _ => rfl⟩
theorem Rchg.trans {F G : Nat → Prop} {w w1 w2 : World} (h : Rchg F w w1) (k : Rchg G w1 w2) (hG : ∀ j, j < w.heap.size → G j → F j) : Rchg F w w2 :=
  ⟨k.os.trans h.os, k.tape.trans h.tape, k.output.trans h.output, Nat.le_trans h.size k.size, fun j hj hn => (k.block j (Nat.lt_of_lt_of_le hj h.size) (fun c => hn (hG j hj c))).trans (h.block j hj hn)⟩
theorem Rchg.set {F : Nat → Prop} {w w1 : World} (h : Rchg F w w1) {g : Nat} (hg : g < w.heap.size → F g) (i : Nat) (v : Value) : Rchg F w (w1.setCell ⟨g, i, none⟩ v) :=
  ⟨h.os, h.tape, h.output, by have := h.size; simpa using this, fun k hk hn => (Below.heap_setCell _ _ _ _ (fun e => by have e' : k = g := e; subst e'; exact hn (hg hk))).trans (h.block k hk hn)⟩
theorem Rchg.below {F : Nat → Prop} {B : Nat} {w0 w w1 : World} (h : Rchg F w w1) (hb : Below B w0 w) (hB : B ≤ w.heap.size) (hF : ∀ k, k < B → ¬ F k) : Below B w0 w1 :=
  ⟨h.os.trans hb.os, h.tape.trans hb.tape, h.output.trans hb.output, Nat.le_trans hb.size h.size, fun k hk => (h.block k (Nat.lt_of_lt_of_le hk hB) (hF k hk)).trans (hb.block k hk)⟩
end Go.Proofs.YtajifionclpphaaGreatDoor

namespace Go.Proofs.YtajifionclpphaaGreatDoor
section
variable {α : Type}
def insR (lt : α → α → Bool) (x : α) : List α → List α
  | [] => [x]
  | y :: ys => if lt x y then y :: insR lt x ys else x :: y :: ys
def isortR (lt : α → α → Bool) (L : List α) : List α := L.foldl (fun acc x => insR lt x acc) []
/-- What insertion sort makes of a list. -/
def isortL (lt : α → α → Bool) (L : List α) : List α := (isortR lt L).reverse
theorem insR_length (lt : α → α → Bool) (x : α) (L : List α) : (insR lt x L).length = L.length + 1 := by
  induction L with
  | nil => rfl
  | cons y ys ih =>
    unfold insR
    split
    · simp [ih]
    · simp
theorem insR_mem {lt : α → α → Bool} {x z : α} {L : List α} : z ∈ insR lt x L ↔ z = x ∨ z ∈ L := by
  induction L with
  | nil => simp [insR]
  | cons y ys ih =>
    unfold insR
    split
    · simp [ih]; constructor <;> (intro h; rcases h with h | h | h <;> simp [h])
    · simp
theorem isortR_snoc (lt : α → α → Bool) (L : List α) (x : α) : isortR lt (L ++ [x]) = insR lt x (isortR lt L) := by
  unfold isortR
  rw [List.foldl_append]
  rfl
theorem isortL_snoc (lt : α → α → Bool) (L : List α) (x : α) : isortL lt (L ++ [x]) = (insR lt x (isortL lt L).reverse).reverse := by
  unfold isortL
  rw [isortR_snoc, List.reverse_reverse]
theorem isortR_rev {lt : α → α → Bool} : ∀ (n : Nat) (L : List α), L.length = n → (isortR lt L).length = n ∧ ∀ z, z ∈ isortR lt L ↔ z ∈ L := by
  intro n
  induction n with
  | zero =>
    intro L h
    have : L = [] := List.length_eq_zero_iff.1 h
    subst this
    exact ⟨rfl, fun z => Iff.rfl⟩
  | succ n ih =>
    intro L h
    have hne : L ≠ [] := fun e => by rw [e] at h; simp at h
    obtain ⟨L', x, rfl⟩ : ∃ L' x, L = L' ++ [x] := ⟨L.dropLast, L.getLast hne, (List.dropLast_concat_getLast hne).symm⟩
    have h' : L'.length = n := by simpa using h
    obtain ⟨h1, h2⟩ := ih L' h'
    rw [isortR_snoc]
    refine ⟨by rw [insR_length, h1], fun z => ?_⟩
    rw [insR_mem, h2, List.mem_append, List.mem_singleton]
    exact Or.comm
theorem isortL_length (lt : α → α → Bool) (L : List α) : (isortL lt L).length = L.length := by
  unfold isortL
  rw [List.length_reverse, (isortR_rev _ L rfl).1]
theorem isortL_mem {lt : α → α → Bool} {L : List α} {z : α} : z ∈ isortL lt L ↔ z ∈ L := by
  unfold isortL
  rw [List.mem_reverse, (isortR_rev _ L rfl).2]
theorem insR_pass {lt : α → α → Bool} {x : α} (R : List α) : ∀ B : List α, (∀ z ∈ B, lt x z = true) → insR lt x (B ++ R) = B ++ insR lt x R
  | [], _ => rfl
  | z :: B, h => by
    have e : insR lt x (z :: (B ++ R)) = z :: insR lt x (B ++ R) := by simp [insR, h z]
    rw [List.cons_append, e, insR_pass R B (fun y hy => h y (by simp [hy])), List.cons_append]
/-- Where the new one comes to lie. -/
theorem ins_at {lt : α → α → Bool} {x : α} {A B : List α} (hB : ∀ z ∈ B, lt x z = true) (hA : ∀ y, A.getLast? = some y → lt x y = false) : (insR lt x (A ++ B).reverse).reverse = A ++ x :: B := by
  rw [List.reverse_append, insR_pass _ _ (fun z hz => hB z (by simpa using hz))]
  have : insR lt x A.reverse = x :: A.reverse := by
    rcases List.eq_nil_or_concat A with h | ⟨A', y, h⟩
    · subst h; rfl
    · rw [List.concat_eq_append] at h
      subst h
      have := hA y (by simp)
      simp [insR, this]
  rw [this]
  simp
/-- The swap. -/
theorem swap_at (A : List α) (x y : α) (B : List α) : (((A ++ y :: x :: B).set (A.length + 1) y).set A.length x) = A ++ x :: y :: B := by
  rw [List.set_append_right _ _ (by omega), List.set_append_right _ _ (by omega)]
  simp
theorem at_here (A : List α) (x : α) (B : List α) (d : α) : (A ++ x :: B).getD A.length d = x := by
  rw [List.getD_eq_getElem?_getD, List.getElem?_append_right (Nat.le_refl _)]
  simp
theorem take_succ' {L : List α} {i : Nat} (d : α) (h : i < L.length) : L.take (i + 1) = L.take i ++ [L.getD i d] := by
  rw [List.take_succ_eq_append_getElem h, List.getD_eq_getElem?_getD, List.getElem?_eq_getElem h]
  rfl
theorem drop_cons' {L : List α} {i : Nat} (d : α) (h : i < L.length) : L.drop i = L.getD i d :: L.drop (i + 1) := by
  rw [List.drop_eq_getElem_cons h, List.getD_eq_getElem?_getD, List.getElem?_eq_getElem h]
  rfl
end
end Go.Proofs.YtajifionclpphaaGreatDoor

namespace Go.Proofs.YtajifionclpphaaGreatDoor
open Go.RowKit Go.Hw

theorem re_setCells {R : Nat} {T : TypeId} {w : World} : ∀ (vs : List Value) (o : Nat) (W : World) (xs : List Value), Re w W R xs.toArray T → Re w (W.setCells R o vs) R (rwSets xs o vs).toArray T
  | [], _, _, _, h => h
  | v :: vs, o, W, xs, h => re_setCells vs (o + 1) _ (xs.set o v) (by
    have := h.set o v
    simpa using this)
theorem re_whole {R : Nat} {T : TypeId} {w : World} {cs vs : Array Value} (hb : w.heap[R]? = some (.cells cs T (0, 0))) (hn : cs.size = vs.size) : Re w (w.setCells R 0 vs.toList) R vs T := by
  have h := re_setCells vs.toList 0 w cs.toList (by simpa using Re.refl hb)
  have e := rwSets_whole vs.toList cs.toList [] [] (by simpa using hn)
  simp at e
  rw [e] at h
  simpa using h
theorem store_run {P : Program} {T T' : TypeId} {w : World} {R : Nat} {cs vs : Array Value} (hb : w.heap[R]? = some (.cells cs T' (0, 0))) (hn : cs.size = vs.size) (hs : (sizeOf T).run P w = .ok vs.size w) (h1 : ∀ v ∈ vs.toList, v.oneCell' = true) :
    (Instr.storeAt T (.pointer (some ⟨R, 0, none⟩)) (.agg vs)).run P w = .ok () (w.setCells R 0 vs.toList) := by
  have hc : ∀ j, j < vs.toList.length → (w.cell? ⟨R, 0 + 0 + j, none⟩).isSome = true := fun j hj => by
    have : j < cs.size := by simp at hj; omega
    simp [World.cell?, hb, this]
  have hf : ∀ j, j < vs.toList.length → w.frozen? ⟨R, 0 + 0 + j, none⟩ = false := fun j hj => by simp [World.frozen?, hb]
  have hst := run_storeCells_cells (P := P) R 0 vs.toList 0 w hc hf h1
  show (storeVar T ⟨R, 0, none⟩ (.agg vs)).run P w = _
  unfold storeVar
  rw [Sem.run_bind, hs]
  have hcells : (Value.agg vs).cells = vs := rfl
  simp only [hcells, ne_eq, not_true_eq_false, if_false, Result.andThen]
  simpa [go_sem] using hst
theorem store_step {P : Program} {a : Act} {w : World} {K : Act → World → Prop} {Q : Exit → Act → World → Prop} {T T' ty : TypeId} {x y : Operand} {pos : String} {after : Array Edge} {guard : Option (Nat × Bool)} {R : Nat} {cs vs : Array Value}
    (hx : a.eval x = .pointer (some ⟨R, 0, none⟩)) (hy : a.eval y = .agg vs) (hb : w.heap[R]? = some (.cells cs T' (0, 0))) (hn : cs.size = vs.size) (hs : (sizeOf T).run P w = .ok vs.size w) (h1 : ∀ v ∈ vs.toList, v.oneCell' = true)
    (hK : ∀ W, Re w W R vs T' → K a W) : Oper.wp P { dst := none, op := Op.store T x y, type := ty, pos := pos, after := after, guard := guard } a w K Q := by
  have hr := store_run (P := P) hb hn hs h1
  have hk := hK _ (re_whole hb hn)
  have hex : (execOp a.eval { dst := none, op := Op.store T x y, type := ty, pos := pos, after := after, guard := guard }).run P w = .ok .skip (w.setCells R 0 vs.toList) := by
    show ((Instr.storeAt T (a.eval x) (a.eval y)) >>= fun _ => (pure Next.skip : Sem Next)).run P w = _
    rw [hx, hy, Sem.run_bind, hr]
    rfl
  unfold Oper.wp
  rw [hex]
  exact hk
end Go.Proofs.YtajifionclpphaaGreatDoor

namespace Go.Proofs.YtajifionclpphaaGreatDoor
open Go.RowKit Go.Hw

/-- An address. -/
structure Ad where
  six : Bool
  hi : Int
  lo : Int
end Go.Proofs.YtajifionclpphaaGreatDoor
