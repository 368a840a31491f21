/- The plain law of the names of addresses: digits, joined and split. -/
import Derived.Lib.SplitLaws
import Derived.Lib.Join
import Derived.Lib.ItoaNum
import Derived.Lib.ParseIntB
namespace Go.Hw
/-- Two words of 64 bits as one number. -/
def valN (s : Nat × Nat) : Nat := s.1 * 18446744073709551616 + s.2
/-- One digit more at the end. -/
def shiftIn (e : Nat) (s : Nat × Nat) (n : Nat) : Nat × Nat := (s.1 * 2 ^ e + s.2 / 2 ^ (64 - e), s.2 * 2 ^ e % 18446744073709551616 + n)
theorem shift_val {e : Nat} (he : e ≤ 64) {s : Nat × Nat} {n : Nat} (h2 : s.2 < 18446744073709551616) (hn : n < 2 ^ e) (hv : valN s * 2 ^ e + n < 18446744073709551616 * 18446744073709551616) :
    valN (shiftIn e s n) = valN s * 2 ^ e + n ∧ (shiftIn e s n).1 < 18446744073709551616 ∧ (shiftIn e s n).2 < 18446744073709551616 ∧ s.1 * 2 ^ e < 18446744073709551616 := by
  obtain ⟨h, l⟩ := s
  simp only [shiftIn, valN] at *
  have hp : (18446744073709551616 : Nat) = 2 ^ (64 - e) * 2 ^ e := by rw [← Nat.pow_add, show 64 - e + e = 64 by omega]
  have e0 : 0 < 2 ^ e := Nat.two_pow_pos e
  have e1 : 0 < 2 ^ (64 - e) := Nat.two_pow_pos _
  have hd : l * 2 ^ e / 18446744073709551616 = l / 2 ^ (64 - e) := by rw [hp]; exact Nat.mul_div_mul_right _ _ e0
  have hdm := Nat.div_add_mod (l * 2 ^ e) 18446744073709551616
  have hmod : l * 2 ^ e % 18446744073709551616 + n < 18446744073709551616 := by
    have : l * 2 ^ e % 18446744073709551616 = (l % 2 ^ (64 - e)) * 2 ^ e := by rw [hp, Nat.mul_mod_mul_right]
    rw [this]
    have h3 : l % 2 ^ (64 - e) < 2 ^ (64 - e) := Nat.mod_lt _ e1
    have h4 : (l % 2 ^ (64 - e) + 1) * 2 ^ e ≤ 2 ^ (64 - e) * 2 ^ e := Nat.mul_le_mul_right _ h3
    rw [Nat.add_mul, ← hp] at h4
    omega
  rw [hd] at hdm
  rw [Nat.add_mul] at hv ⊢
  rw [Nat.mul_right_comm] at hv ⊢
  refine ⟨by rw [Nat.add_mul]; omega, ?_, hmod, ?_⟩
  · by_cases h5 : h * 2 ^ e + l / 2 ^ (64 - e) < 18446744073709551616
    · exact h5
    · exfalso
      have : 18446744073709551616 * 18446744073709551616 ≤ (h * 2 ^ e + l / 2 ^ (64 - e)) * 18446744073709551616 := Nat.mul_le_mul_right _ (by omega)
      rw [Nat.add_mul] at this
      omega
  · by_cases h5 : h * 2 ^ e < 18446744073709551616
    · exact h5
    · exfalso
      have : 18446744073709551616 * 18446744073709551616 ≤ (h * 2 ^ e) * 18446744073709551616 := Nat.mul_le_mul_right _ (by omega)
      omega
theorem val_inj {s t : Nat × Nat} (h : valN s = valN t) (hs : s.2 < 18446744073709551616) (ht : t.2 < 18446744073709551616) : s = t := by
  obtain ⟨a, b⟩ := s
  obtain ⟨c, d⟩ := t
  simp only [valN] at *
  have : a = c := by omega
  subst this
  have : b = d := by omega
  subst this
  rfl
/-- The digit at place i, of so many bits. -/
def digitAt (e N i : Nat) : Nat := N / 2 ^ (e * i) % 2 ^ e
theorem digit_lt (e N i : Nat) : digitAt e N i < 2 ^ e := Nat.mod_lt _ (Nat.two_pow_pos e)
theorem top_step (e N i : Nat) : N / 2 ^ (e * (i + 1)) * 2 ^ e + digitAt e N i = N / 2 ^ (e * i) := by
  unfold digitAt
  rw [show e * (i + 1) = e * i + e by rw [Nat.mul_add]; omega, Nat.pow_add, ← Nat.div_div_eq_div_mul]
  rw [Nat.mul_comm]
  exact Nat.div_add_mod _ _
/-- All digits, from the last place on, lead to the number. -/
theorem digits_back {e : Nat} (he : e ≤ 64) {N : Nat} (hN : N < 18446744073709551616 * 18446744073709551616) (m : Nat) (hm : N < 2 ^ (e * m)) :
    ∀ k, k ≤ m → let s := ((List.range k).map (fun j => digitAt e N (m - 1 - j))).foldl (shiftIn e) (0, 0); valN s = N / 2 ^ (e * (m - k)) ∧ s.1 < 18446744073709551616 ∧ s.2 < 18446744073709551616
  | 0, _ => by
    simp only [List.range_zero, List.map_nil, List.foldl_nil, Nat.sub_zero]
    refine ⟨?_, by decide, by decide⟩
    rw [Nat.div_eq_of_lt hm]
    rfl
  | k + 1, h => by
    have ih := digits_back he hN m hm k (by omega)
    simp only [List.range_succ, List.map_append, List.foldl_append, List.map_cons, List.map_nil, List.foldl_cons, List.foldl_nil] at ih ⊢
    generalize ((List.range k).map (fun j => digitAt e N (m - 1 - j))).foldl (shiftIn e) (0, 0) = s at ih ⊢
    obtain ⟨i1, i2, i3⟩ := ih
    have ht := top_step e N (m - 1 - k)
    rw [show m - 1 - k + 1 = m - k by omega, ← i1] at ht
    have hlt : N / 2 ^ (e * (m - 1 - k)) ≤ N := Nat.div_le_self _ _
    obtain ⟨h1, h2, h3, _⟩ := shift_val he i3 (digit_lt e N (m - 1 - k)) (by rw [ht]; omega)
    exact ⟨by rw [h1, ht, show m - (k + 1) = m - 1 - k by omega], h2, h3⟩
open Go.Lib
/-- The first part of a text that is joined. -/
theorem index_joined (c : UInt8) : ∀ (x r : List UInt8), c ∉ x → index (x ++ c :: r) [c] = x.length
  | [], r, _ => by simp [index, List.isPrefixOf]
  | b :: x, r, h => by
    have hb : b ≠ c := fun e => h (by simp [e])
    have ih := index_joined c x r (fun e => h (List.mem_cons_of_mem _ e))
    rw [List.cons_append, index]
    have hp : [c].isPrefixOf (b :: (x ++ c :: r)) = false := by simp [List.isPrefixOf, Ne.symm hb]
    rw [hp, ih, if_neg (by decide), if_neg (by simp)]
    simp
theorem index_free (c : UInt8) : ∀ (x : List UInt8), c ∉ x → index x [c] = -1
  | [], _ => by simp [index]
  | b :: x, h => by
    have hb : b ≠ c := fun e => h (by simp [e])
    have ih := index_free c x (fun e => h (List.mem_cons_of_mem _ e))
    rw [index]
    have hp : [c].isPrefixOf (b :: x) = false := by simp [List.isPrefixOf, Ne.symm hb]
    rw [hp, ih, if_neg (by decide)]
    rfl
theorem joinTail_cons (c : UInt8) (y : List UInt8) (r : List (List UInt8)) : joinTail [c] (y :: r) = c :: (y ++ joinTail [c] r) := by
  simp [joinTail]
/-- A joined text is split into what was joined. -/
theorem split_joined (c : UInt8) : ∀ (x : List UInt8) (r : List (List UInt8)), c ∉ x → (∀ y ∈ r, c ∉ y) → splitK [c] 0 r.length (x ++ joinTail [c] r) = x :: r
  | x, [], hx, _ => by simp [splitK, joinTail]
  | x, y :: r, hx, hr => by
    have hi : index (x ++ joinTail [c] (y :: r)) [c] = x.length := by rw [joinTail_cons]; exact index_joined c x _ hx
    have ih := split_joined c y r (hr y (by simp)) (fun z hz => hr z (List.mem_cons_of_mem _ hz))
    rw [List.length_cons, splitK, hi, if_neg (by simp)]
    have h1 : ((x.length : Int)).toNat = x.length := by simp
    rw [h1, joinTail_cons]
    simp only [List.length_singleton, Nat.add_zero]
    rw [List.take_left', List.drop_append, List.drop_eq_nil_of_le (by omega), List.nil_append, show x.length + 1 - x.length = 1 from by omega]
    · rw [List.drop_one, List.tail_cons, ih]
    · rfl
theorem count_joined (c : UInt8) : ∀ (x : List UInt8) (r : List (List UInt8)), c ∉ x → (∀ y ∈ r, c ∉ y) → (x ++ joinTail [c] r).count c = r.length
  | x, [], hx, _ => by simp [joinTail, List.count_eq_zero.2 hx]
  | x, y :: r, hx, hr => by
    have ih := count_joined c y r (hr y (by simp)) (fun z hz => hr z (List.mem_cons_of_mem _ hz))
    rw [joinTail_cons, List.count_append, List.count_cons_self, ih, List.count_eq_zero.2 hx]
    simp
/-- strings.Split of a joined text. -/
theorem split_join (c : UInt8) (x : List UInt8) (r : List (List UInt8)) (hx : c ∉ x) (hr : ∀ y ∈ r, c ∉ y) : split (join (x :: r) [c]) [c] = x :: r := by
  unfold split
  rw [count_one, join_cons, count_joined c x r hx hr]
  exact split_joined c x r hx hr
/-- A hexadecimal digit. -/
def hexB (n : Nat) : UInt8 := UInt8.ofNat (if n < 10 then 48 + n else 87 + n)
/-- The labels of the name of an address. -/
def backL (six : Bool) (N : Nat) : List (List UInt8) := if six then (List.range 32).map (fun i => [hexB (digitAt 4 N i)]) else (List.range 4).map (fun i => decDigits (digitAt 8 N i))
def tailL (six : Bool) : List (List UInt8) := if six then [[105, 112, 54], [97, 114, 112, 97]] else [[105, 110, 45, 97, 100, 100, 114], [97, 114, 112, 97]]
def tailB (six : Bool) : List UInt8 := if six then [46, 105, 112, 54, 46, 97, 114, 112, 97] else [46, 105, 110, 45, 97, 100, 100, 114, 46, 97, 114, 112, 97]
/-- The name of an address. -/
def backB (six : Bool) (N : Nat) : List UInt8 := join (backL six N) [46] ++ tailB six
theorem dec_small : ∀ n : Fin 256, decDigits n.val ≠ [] ∧ (decDigits n.val).length ≤ 3 ∧ (∀ b ∈ decDigits n.val, 48 ≤ b.toNat ∧ b.toNat ≤ 57) ∧ parseUintM 255 0 (decDigits n.val) = .ok n.val := by decide +kernel
theorem hex_small : ∀ n : Fin 16, (48 ≤ (hexB n.val).toNat ∧ (hexB n.val).toNat ≤ 57) ∨ (97 ≤ (hexB n.val).toNat ∧ (hexB n.val).toNat ≤ 102) := by decide +kernel
/-- A letter or a digit. -/
def wordB (b : UInt8) : Prop := (48 ≤ b.toNat ∧ b.toNat ≤ 57) ∨ (97 ≤ b.toNat ∧ b.toNat ≤ 122)
/-- A plain label: letters and digits, and '-' inside. -/
structure Plain (x : List UInt8) : Prop where
  some_ : x ≠ []
  short : x.length ≤ 63
  all : ∀ b ∈ x, wordB b ∨ b = 45
  first : ∀ b, x.head? = some b → wordB b
  last : ∀ b, x.getLast? = some b → wordB b
theorem plain_of {x : List UInt8} (h0 : x ≠ []) (h1 : x.length ≤ 63) (h2 : ∀ b ∈ x, wordB b) : Plain x :=
  ⟨h0, h1, fun b hb => .inl (h2 b hb), fun b hb => h2 b (List.mem_of_mem_head? hb), fun b hb => h2 b (List.mem_of_getLast? hb)⟩
theorem Plain.free {x : List UInt8} (h : Plain x) : (46 : UInt8) ∉ x := fun e => by
  rcases h.all _ e with h1 | h1
  · rcases h1 with h1 | h1 <;> simp at h1
  · simp at h1
theorem back_plain (six : Bool) (N : Nat) : ∀ x ∈ backL six N, Plain x := by
  intro x hx
  unfold backL at hx
  split at hx
  · obtain ⟨i, _, rfl⟩ := List.mem_map.1 hx
    have h := hex_small ⟨digitAt 4 N i, by unfold digitAt; exact Nat.mod_lt _ (by decide)⟩
    refine plain_of (by simp) (by simp) fun b hb => ?_
    simp at hb; subst hb
    rcases h with h | h
    · exact .inl h
    · exact .inr ⟨h.1, by simp only at h ⊢; omega⟩
  · obtain ⟨i, _, rfl⟩ := List.mem_map.1 hx
    have h := dec_small ⟨digitAt 8 N i, by unfold digitAt; exact Nat.mod_lt _ (by decide)⟩
    exact plain_of h.1 (by have := h.2.1; simp only at this ⊢; omega) fun b hb => .inl (h.2.2.1 b hb)
theorem tail_plain (six : Bool) : ∀ x ∈ tailL six, Plain x := by
  intro x hx
  have hw : ∀ x ∈ tailL six, x ≠ [] ∧ x.length ≤ 63 ∧ (∀ b ∈ x, ((48 ≤ b.toNat ∧ b.toNat ≤ 57) ∨ (97 ≤ b.toNat ∧ b.toNat ≤ 122)) ∨ b = 45) ∧ (∀ b, x.head? = some b → (48 ≤ b.toNat ∧ b.toNat ≤ 57) ∨ (97 ≤ b.toNat ∧ b.toNat ≤ 122)) ∧ (∀ b, x.getLast? = some b → (48 ≤ b.toNat ∧ b.toNat ≤ 57) ∨ (97 ≤ b.toNat ∧ b.toNat ≤ 122)) := by
    cases six <;> simp [tailL]
  obtain ⟨h1, h2, h3, h4, h5⟩ := hw x hx
  exact ⟨h1, h2, h3, h4, h5⟩
theorem back_len (six : Bool) (N : Nat) : (backL six N).length = if six then 32 else 4 := by cases six <;> simp [backL]
theorem back_cons (six : Bool) (N : Nat) : ∃ x r, backL six N = x :: r := by
  have h := back_len six N
  cases hx : backL six N with
  | nil => rw [hx] at h; cases six <;> simp at h
  | cons x r => exact ⟨x, r, rfl⟩
/-- The whole name, as labels. -/
theorem back_join (six : Bool) (N : Nat) : backB six N = join (backL six N ++ tailL six) [46] := by
  obtain ⟨x, r, hx⟩ := back_cons six N
  unfold backB
  rw [hx, List.cons_append, join_cons, join_cons]
  unfold joinTail
  rw [List.map_append, List.flatten_append, List.append_assoc]
  congr 2
  cases six <;> rfl
theorem all_plain (six : Bool) (N : Nat) : ∀ x ∈ backL six N ++ tailL six, Plain x := fun x hx => by
  rcases List.mem_append.1 hx with h | h
  · exact back_plain six N x h
  · exact tail_plain six x h
/-- The name is split into its labels. -/
theorem back_split (six : Bool) (N : Nat) : split (backB six N) [46] = backL six N ++ tailL six := by
  have hp := all_plain six N
  rw [back_join]
  obtain ⟨x, r, hx⟩ := back_cons six N
  rw [hx, List.cons_append] at hp ⊢
  exact split_join 46 x (r ++ tailL six) (hp x (by simp)).free (fun y hy => (hp y (List.mem_cons_of_mem _ hy)).free)
theorem rest_split (six : Bool) (N : Nat) : split (join (backL six N) [46]) [46] = backL six N := by
  have hp := back_plain six N
  obtain ⟨x, r, hx⟩ := back_cons six N
  rw [hx] at hp ⊢
  exact split_join 46 x r (hp x (by simp)).free (fun y hy => (hp y (List.mem_cons_of_mem _ hy)).free)
theorem lens_le (k : Nat) : ∀ (xs : List (List UInt8)), (∀ x ∈ xs, x.length ≤ k) → lens xs ≤ k * xs.length
  | [], _ => by simp [lens]
  | x :: xs, h => by
    have h1 := lens_le k xs (fun y hy => h y (List.mem_cons_of_mem _ hy))
    have h2 := h x (by simp)
    have h3 : lens (x :: xs) = x.length + lens xs := by simp [lens]
    rw [h3, List.length_cons, Nat.mul_add]
    omega
theorem back_short (six : Bool) (N : Nat) : (backB six N).length ≤ 72 := by
  obtain ⟨x, r, hx⟩ := back_cons six N
  have hl := back_len six N
  have ht : (tailB six).length ≤ 13 ∧ (six = true → (tailB six).length = 9) := by cases six <;> simp [tailB]
  unfold backB
  rw [hx] at hl ⊢
  rw [List.length_append, join_length]
  have hk : ∀ y ∈ backL six N, y.length ≤ if six then 1 else 3 := by
    intro y hy
    unfold backL at hy
    cases six
    · obtain ⟨i, _, rfl⟩ := List.mem_map.1 hy
      exact (dec_small ⟨digitAt 8 N i, by unfold digitAt; exact Nat.mod_lt _ (by decide)⟩).2.1
    · obtain ⟨i, _, rfl⟩ := List.mem_map.1 hy
      simp
  rw [hx] at hk
  have h1 := lens_le _ _ hk
  rw [hl] at h1
  simp only [List.length_cons] at hl
  cases six
  · simp at h1 hl ht ⊢; omega
  · simp at h1 hl ht ⊢; omega
theorem suffix_own (a b : List UInt8) : hasSuffix (a ++ b) b = true ∧ trimSuffix (a ++ b) b = a := by
  have h : hasSuffix (a ++ b) b = true := by
    unfold hasSuffix
    exact List.isSuffixOf_iff_suffix.2 (List.suffix_append a b)
  refine ⟨h, ?_⟩
  unfold trimSuffix
  rw [h]
  simp
theorem suffix_not (a : List UInt8) : hasSuffix (a ++ tailB false) (tailB true) = false := by
  unfold hasSuffix
  cases h : (tailB true).isSuffixOf (a ++ tailB false)
  · rfl
  · exfalso
    have h1 := List.isSuffixOf_iff_suffix.1 h
    have h2 : [(114 : UInt8), 46, 97, 114, 112, 97] <:+ a ++ tailB false := ⟨a ++ [46, 105, 110, 45, 97, 100, 100], by simp [tailB]⟩
    have h3 : [(54 : UInt8), 46, 97, 114, 112, 97] <:+ a ++ tailB false := by
      refine List.IsSuffix.trans ?_ h1
      exact ⟨[46, 105, 112], by simp [tailB]⟩
    have h4 := List.suffix_of_suffix_length_le h2 h3 (by simp)
    obtain ⟨t, ht⟩ := h4
    have : t = [] := by
      have := congrArg List.length ht
      simpa using this
    subst this
    simp at ht
/-- What a label of the name means. -/
def hexV (c : UInt8) : Nat := if c.toNat ≤ 57 then c.toNat - 48 else c.toNat - 87
theorem hex_back : ∀ n : Fin 16, hexV (hexB n.val) = n.val := by decide +kernel
/-- The digits, from the last label on. -/
theorem back_rev_six (N : Nat) : (backL true N).reverse = (List.range 32).map (fun j => [hexB (digitAt 4 N (32 - 1 - j))]) := by
  unfold backL
  rw [if_pos rfl]
  apply List.ext_getElem
  · simp
  · intro i h1 h2
    simp at h1 h2 ⊢
theorem back_rev_four (N : Nat) : (backL false N).reverse = (List.range 4).map (fun j => decDigits (digitAt 8 N (4 - 1 - j))) := by
  unfold backL
  rw [if_neg (by decide)]
  apply List.ext_getElem
  · simp
  · intro i h1 h2
    simp at h1 h2 ⊢
def toB (x : List UInt8) : ByteArray := ⟨x.toArray⟩
theorem toB_data (x : List UInt8) : (toB x).data.toList = x := rfl
theorem toB_of (b : ByteArray) : toB b.data.toList = b := rfl
theorem splitB_eq {s : ByteArray} {xs : List (List UInt8)} (h : split s.data.toList [46] = xs) : splitB ⟨#[46]⟩ 0 (countB s ⟨#[46]⟩) s = xs.map toB := by
  have h1 := splitB_data ⟨#[46]⟩ 0 (countB s ⟨#[46]⟩) s
  have h2 : (splitB ⟨#[46]⟩ 0 (countB s ⟨#[46]⟩) s).map (·.data.toList) = xs := by rw [h1, ← h]; rfl
  rw [← h2, List.map_map]
  conv => lhs; rw [← List.map_id (splitB ⟨#[46]⟩ 0 (countB s ⟨#[46]⟩) s)]
  rfl
theorem split_len {s : ByteArray} {xs : List (List UInt8)} (h : split s.data.toList [46] = xs) : countB s ⟨#[46]⟩ + 1 = xs.length := by
  have h1 := splitB_all ⟨#[46]⟩ (by decide) 0 _ s rfl
  rw [splitB_eq h, List.length_map] at h1
  exact h1.symm
end Go.Hw
