/- Labels, as lists of bytes: what Label makes is a label; the first that is free; Call. -/
import Derived.Test.YtcgligfkpfjcpaaGreatDoorLbL
import Derived.Test.YtcgligfkpfjcpaaGreatDoorRwS
import Derived.Test.YtcgligfkpfjcpaaGreatDoorLbA
namespace Go.Proofs.YtcgligfkpfjcpaaGreatDoor
open Go.Hw

theorem stepL_bytes {out : List UInt8} {c : UInt8} (h : ∀ b ∈ out, wordB b ∨ b = 45) : ∀ b ∈ stepL out c, wordB b ∨ b = 45 := by
  intro b hb
  unfold stepL at hb
  split at hb
  · rename_i hl
    rcases List.mem_append.1 hb with hb | hb
    · exact h b hb
    · rw [List.mem_singleton.1 hb]
      left
      unfold letP at hl
      have := of_decide_eq_true hl
      unfold wordB
      omega
  · split at hb
    · exact h b hb
    · rcases List.mem_append.1 hb with hb | hb
      · exact h b hb
      · exact .inr (List.mem_singleton.1 hb)
theorem rawL_bytes : ∀ (n : Nat) (s : List UInt8), s.length = n → ∀ b ∈ rawL s, wordB b ∨ b = 45 := by
  intro n
  induction n with
  | zero =>
    intro s h b hb
    rw [List.length_eq_zero_iff.1 h] at hb
    simp [rawL] at hb
  | succ n ih =>
    intro s h
    have hne : s ≠ [] := fun e => by rw [e] at h; simp at h
    obtain ⟨s', x, rfl⟩ : ∃ s' x, s = s' ++ [x] := ⟨s.dropLast, s.getLast hne, (List.dropLast_concat_getLast hne).symm⟩
    rw [rawL_snoc]
    exact stepL_bytes (ih s' (by simpa using h))
theorem dropW_head {l : List UInt8} {c b : UInt8} (h : (l.dropWhile (· == c)).head? = some b) : b ≠ c := by
  induction l with
  | nil => simp at h
  | cons x l ih =>
    rw [List.dropWhile_cons] at h
    split at h
    · exact ih h
    · rename_i hx
      simp only [List.head?_cons, Option.some.injEq] at h
      rw [← h]
      simpa using hx
theorem dropW_suffix (l : List UInt8) (c : UInt8) : (l.dropWhile (· == c)) <:+ l := List.dropWhile_suffix _
theorem trim_right_last {l : List UInt8} {c b : UInt8} (h : (Lib.trimRightB l c).getLast? = some b) : b ≠ c := by
  unfold Lib.trimRightB at h
  rw [List.getLast?_reverse] at h
  exact dropW_head h
theorem trimB_sub {l : List UInt8} {c : UInt8} : (∀ b ∈ Lib.trimB l c, b ∈ l) ∧ (Lib.trimB l c).length ≤ l.length := by
  have h1 : (Lib.trimRightB l c).Sublist l := by
    unfold Lib.trimRightB
    have := (dropW_suffix l.reverse c).sublist.reverse
    rwa [List.reverse_reverse] at this
  have h2 : (Lib.trimB l c).Sublist l := ((dropW_suffix (Lib.trimRightB l c) c).sublist).trans h1
  exact ⟨fun b hb => h2.subset hb, h2.length_le⟩
theorem trimB_first {l : List UInt8} {c b : UInt8} (h : (Lib.trimB l c).head? = some b) : b ≠ c := dropW_head h
theorem trimB_last {l : List UInt8} {c b : UInt8} (h : (Lib.trimB l c).getLast? = some b) : b ≠ c := by
  have hs : Lib.trimB l c <:+ Lib.trimRightB l c := dropW_suffix _ _
  obtain ⟨t, ht⟩ := hs
  refine trim_right_last (l := l) (c := c) ?_
  rw [← ht, List.getLast?_append, h]
  rfl
theorem labelL_plain (s : List UInt8) : Plain (labelL s) := by
  unfold labelL
  split
  · refine plain_of (by simp) (by simp) fun b hb => ?_
    simp only [List.mem_cons, List.not_mem_nil, or_false] at hb
    rcases hb with rfl | rfl | rfl | rfl <;> (unfold wordB; decide)
  · rename_i hne
    have hb : ∀ b ∈ Lib.trimB ((rawL s).take 63) 45, wordB b ∨ b = 45 := fun b hb => rawL_bytes _ s rfl b (List.mem_of_mem_take (trimB_sub.1 b hb))
    refine ⟨hne, ?_, hb, fun b hh => ?_, fun b hh => ?_⟩
    · have h1 := (trimB_sub (l := (rawL s).take 63) (c := 45)).2
      rw [List.length_take] at h1
      omega
    · rcases hb b (List.mem_of_mem_head? hh) with h | h
      · exact h
      · exact absurd h (trimB_first hh)
    · rcases hb b (List.mem_of_getLast? hh) with h | h
      · exact h
      · exact absurd h (trimB_last hh)

/-- The n-th label that is tried. -/
def candL (base : List UInt8) (n : Nat) : List UInt8 := if n = 0 then base else base.take (min base.length (63 - ([45] ++ Lib.decDigits n).length)) ++ ([45] ++ Lib.decDigits n)
theorem dec_one {n : Nat} (h : n ≤ 9) : ∃ d : UInt8, Lib.decDigits n = [d] ∧ d.toNat = 48 + n := by
  have : n = 0 ∨ n = 1 ∨ n = 2 ∨ n = 3 ∨ n = 4 ∨ n = 5 ∨ n = 6 ∨ n = 7 ∨ n = 8 ∨ n = 9 := by omega
  rcases this with rfl | rfl | rfl | rfl | rfl | rfl | rfl | rfl | rfl | rfl
  · exact ⟨48, by decide +kernel, rfl⟩
  · exact ⟨49, by decide +kernel, rfl⟩
  · exact ⟨50, by decide +kernel, rfl⟩
  · exact ⟨51, by decide +kernel, rfl⟩
  · exact ⟨52, by decide +kernel, rfl⟩
  · exact ⟨53, by decide +kernel, rfl⟩
  · exact ⟨54, by decide +kernel, rfl⟩
  · exact ⟨55, by decide +kernel, rfl⟩
  · exact ⟨56, by decide +kernel, rfl⟩
  · exact ⟨57, by decide +kernel, rfl⟩
theorem candL_plain {base : List UInt8} (h : Plain base) {n : Nat} (hn : n ≤ 9) : Plain (candL base n) := by
  unfold candL
  split
  · exact h
  · obtain ⟨d, hd, hdn⟩ := dec_one hn
    rw [hd]
    have hw : wordB d := by unfold wordB; omega
    have hbl : 0 < base.length := List.length_pos_iff.2 h.some_
    refine ⟨by simp, ?_, fun b hb => ?_, fun b hb => ?_, fun b hb => ?_⟩
    · simp only [List.length_append, List.length_take, List.length_cons, List.length_nil]; omega
    · rcases List.mem_append.1 hb with hb | hb
      · exact h.all b (List.mem_of_mem_take hb)
      · simp only [List.cons_append, List.nil_append, List.mem_cons, List.not_mem_nil, or_false] at hb
        rcases hb with rfl | rfl
        · exact .inr rfl
        · exact .inl hw
    · refine h.first b ?_
      have hq : 1 ≤ min base.length (63 - ([45] ++ [d]).length) := by simp; omega
      generalize min base.length (63 - ([45] ++ [d]).length) = q at *
      cases base with
      | nil => simp at hbl
      | cons x xs =>
        obtain ⟨q, rfl⟩ : ∃ q', q = q' + 1 := ⟨q - 1, by omega⟩
        simpa using hb
    · rw [List.getLast?_append] at hb
      simp at hb
      rw [← hb]
      exact hw
theorem candL_inj {base : List UInt8} {n m : Nat} (hn : 1 ≤ n) (hn9 : n ≤ 9) (hm : 1 ≤ m) (hm9 : m ≤ 9) (h : candL base n = candL base m) : n = m := by
  obtain ⟨d, hd, hdn⟩ := dec_one hn9
  obtain ⟨e, he, hen⟩ := dec_one hm9
  unfold candL at h
  rw [if_neg (by omega), if_neg (by omega), hd, he] at h
  have := congrArg List.getLast? h
  rw [List.getLast?_append, List.getLast?_append] at this
  simp at this
  rw [this] at hdn
  omega
/-- How many of those that were tried are taken. -/
theorem taken_few {base : List UInt8} {taken : List (List UInt8)} {n : Nat} (hn : n ≤ 9) (h : ∀ m, 1 ≤ m → m ≤ n → candL base m ∈ taken) : n ≤ taken.length := by
  have hnd : ((List.range n).map fun i => candL base (i + 1)).Nodup := by
    rw [List.nodup_iff_pairwise_ne, List.pairwise_map]
    refine List.Pairwise.imp_of_mem ?_ (List.nodup_range (n := n))
    intro a b ha hb hab e
    have ha' := List.mem_range.1 ha
    have hb' := List.mem_range.1 hb
    exact hab (by have := candL_inj (by omega) (by omega) (by omega) (by omega) e; omega)
  have hsub : ((List.range n).map fun i => candL base (i + 1)) ⊆ taken := by
    intro x hx
    obtain ⟨i, hi, rfl⟩ := List.mem_map.1 hx
    have := List.mem_range.1 hi
    exact h (i + 1) (by omega) (by omega)
  have := hnd.length_le_of_subset hsub
  simpa using this
/-- The first label that is free. -/
def uniqL (taken : List (List UInt8)) (base : List UInt8) : List UInt8 := candL base (((List.range 10).find? fun n => decide (candL base n ∉ taken)).getD 0)
theorem uniqL_at {taken : List (List UInt8)} {base : List UInt8} {n : Nat} (hn : n ≤ 9) (h : ∀ m, m < n → candL base m ∈ taken) (hf : candL base n ∉ taken) : uniqL taken base = candL base n := by
  unfold uniqL
  have : (List.range 10).find? (fun n => decide (candL base n ∉ taken)) = some n := by
    rw [List.find?_eq_some_iff_getElem]
    refine ⟨by simpa using hf, n, by simp; omega, by simp, fun j hj => ?_⟩
    simp
    exact h j hj
  rw [this]
  rfl
theorem uniqL_free {taken : List (List UInt8)} {base : List UInt8} (ht : taken.length ≤ 7) (hb : Plain base) : uniqL taken base ∉ taken ∧ Plain (uniqL taken base) := by
  have hex : ∃ n, n ≤ 9 ∧ candL base n ∉ taken := by
    by_cases h : ∃ n, n ≤ 9 ∧ candL base n ∉ taken
    · exact h
    · have h2 : ∀ m, 1 ≤ m → m ≤ 9 → candL base m ∈ taken := fun m _ h9 => by
        by_cases hm : candL base m ∈ taken
        · exact hm
        · exact absurd ⟨m, h9, hm⟩ h
      have := taken_few (n := 9) (Nat.le_refl _) h2
      omega
  unfold uniqL
  cases hf : (List.range 10).find? (fun n => decide (candL base n ∉ taken)) with
  | none =>
    obtain ⟨n, hn, hn2⟩ := hex
    rw [List.find?_eq_none] at hf
    have := hf n (List.mem_range.2 (by omega))
    simp [hn2] at this
  | some n =>
    have h1 := List.find?_some hf
    have h2 := List.mem_range.1 (List.mem_of_find?_eq_some hf)
    exact ⟨by simpa using h1, candL_plain hb (by show n ≤ 9; omega)⟩
end Go.Proofs.YtcgligfkpfjcpaaGreatDoor
