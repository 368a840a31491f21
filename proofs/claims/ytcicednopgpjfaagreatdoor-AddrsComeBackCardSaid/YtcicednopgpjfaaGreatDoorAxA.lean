/- The plain law of the texts of addresses: hexadecimal groups, the longest row of zeros, what is cut and split. -/
import Derived.Test.YtcicednopgpjfaaGreatDoorBaP
namespace Go.Hw
open Go.Lib

/-- The numeral of a group. -/
def hexL (n : Nat) : List UInt8 :=
  if n < 16 then [hexB n] else if n < 256 then [hexB (n / 16), hexB (n % 16)] else if n < 4096 then [hexB (n / 256), hexB (n / 16 % 16), hexB (n % 16)]
  else [hexB (n / 4096), hexB (n / 256 % 16), hexB (n / 16 % 16), hexB (n % 16)]
def hexP (x : List UInt8) : Nat := x.foldl (fun a c => a * 16 + hexV c) 0
theorem hexV_B {n : Nat} (h : n < 16) : hexV (hexB n) = n := hex_back ⟨n, h⟩
theorem hexP_L {n : Nat} (h : n < 65536) : hexP (hexL n) = n := by
  unfold hexL
  split
  · simp [hexP, hexV_B (by assumption)]
  split
  · simp [hexP, hexV_B (show n / 16 < 16 by omega), hexV_B (show n % 16 < 16 by omega)]
    omega
  split
  · simp [hexP, hexV_B (show n / 256 < 16 by omega), hexV_B (show n / 16 % 16 < 16 by omega), hexV_B (show n % 16 < 16 by omega)]
    omega
  · simp [hexP, hexV_B (show n / 4096 < 16 by omega), hexV_B (show n / 256 % 16 < 16 by omega), hexV_B (show n / 16 % 16 < 16 by omega), hexV_B (show n % 16 < 16 by omega)]
    omega
theorem hexL_len (n : Nat) : 1 ≤ (hexL n).length ∧ (hexL n).length ≤ 4 := by
  unfold hexL
  split
  · simp
  split
  · simp
  split <;> simp
/-- A small hexadecimal digit. -/
def hexC (c : UInt8) : Prop := (48 ≤ c.toNat ∧ c.toNat ≤ 57) ∨ (97 ≤ c.toNat ∧ c.toNat ≤ 102)
theorem hexB_c {n : Nat} (h : n < 16) : hexC (hexB n) := hex_small ⟨n, h⟩
theorem hexL_c {n : Nat} (h : n < 65536) : ∀ c ∈ hexL n, hexC c := by
  unfold hexL
  split
  · rename_i h1
    simp only [List.mem_cons, List.mem_nil_iff, or_false]
    rintro c rfl
    exact hexB_c h1
  split
  · simp only [List.mem_cons, List.mem_nil_iff, or_false]
    rintro c (rfl | rfl) <;> exact hexB_c (by omega)
  split
  · simp only [List.mem_cons, List.mem_nil_iff, or_false]
    rintro c (rfl | rfl | rfl) <;> exact hexB_c (by omega)
  · simp only [List.mem_cons, List.mem_nil_iff, or_false]
    rintro c (rfl | rfl | rfl | rfl) <;> exact hexB_c (by omega)
theorem hexC_ne {c : UInt8} (h : hexC c) : c ≠ 58 ∧ c ≠ 46 := by
  unfold hexC at h
  constructor <;> (rintro rfl; revert h; decide)
/-- How many zeros stand in front. -/
def zrun : List Nat → Nat
  | [] => 0
  | x :: l => if x = 0 then zrun l + 1 else 0
def zgo (g : List Nat) : Nat → Nat → Nat → Nat → Nat × Nat
  | 0, _, f, m => (f, m)
  | k + 1, i, f, m => if i < g.length then zgo g k (i + zrun (g.drop i) + 1) (if m < zrun (g.drop i) then i else f) (if m < zrun (g.drop i) then zrun (g.drop i) else m) else (f, m)
/-- The first longest row of zeros. -/
def zeroF (g : List Nat) : Nat × Nat := zgo g 9 0 0 0
def zAll (g : List Nat) (f m : Nat) : Prop := f + m ≤ g.length ∧ ∀ j, f ≤ j → j < f + m → g.getD j 1 = 0
theorem zrun_all : ∀ (g : List Nat) (i : Nat), i ≤ g.length → zAll g i (zrun (g.drop i))
  | [], i, h => by
    have : i = 0 := by simpa using h
    subst this
    exact ⟨by simp [zrun], fun j h1 h2 => by simp [zrun] at h2⟩
  | x :: l, 0, _ => by
    show zAll (x :: l) 0 (if x = 0 then zrun l + 1 else 0)
    by_cases hx : x = 0
    · rw [if_pos hx]
      obtain ⟨h1, h2⟩ := zrun_all l 0 (by omega)
      simp only [List.drop_zero, Nat.zero_add] at h1 h2
      refine ⟨by simp; omega, fun j _ hj => ?_⟩
      rcases j with _ | j
      · simpa using hx
      · have := h2 j (by omega) (by omega)
        simpa using this
    · rw [if_neg hx]
      exact ⟨by omega, fun j h1 h2 => by omega⟩
  | x :: l, i + 1, h => by
    obtain ⟨h1, h2⟩ := zrun_all l i (by simpa using h)
    refine ⟨by simp only [List.drop_succ_cons, List.length_cons]; omega, fun j hj hj2 => ?_⟩
    obtain ⟨j, rfl⟩ : ∃ k, j = k + 1 := ⟨j - 1, by omega⟩
    have := h2 j (by omega) (by simp only [List.drop_succ_cons] at hj2; omega)
    simpa using this
theorem zgo_all (g : List Nat) : ∀ k i f m, zAll g f m → zAll g (zgo g k i f m).1 (zgo g k i f m).2
  | 0, _, _, _, h => h
  | k + 1, i, f, m, h => by
    unfold zgo
    split
    · refine zgo_all g k _ _ _ ?_
      by_cases hc : m < zrun (g.drop i)
      · rw [if_pos hc, if_pos hc]
        exact zrun_all g i (by omega)
      · rw [if_neg hc, if_neg hc]
        exact h
    · exact h
theorem zeroF_all (g : List Nat) : zAll g (zeroF g).1 (zeroF g).2 := zgo_all g 9 0 0 0 ⟨by omega, fun j h1 h2 => by omega⟩
/-- The text of the groups of an address. -/
def textG (g : List Nat) : List UInt8 :=
  if (zeroF g).2 < 2 then join (g.map hexL) [58] else join ((g.map hexL).take (zeroF g).1) [58] ++ [58, 58] ++ join ((g.map hexL).drop ((zeroF g).1 + (zeroF g).2)) [58]
/-- Each colon stands ahead of something else. -/
def goodL : List UInt8 → Prop
  | [] => True
  | c :: l => (c = 58 → ∃ d l', l = d :: l' ∧ d ≠ 58) ∧ goodL l
theorem goodL_app : ∀ (x y : List UInt8), (∀ c ∈ x, c ≠ 58) → goodL y → goodL (x ++ y)
  | [], _, _, h => h
  | c :: x, y, hx, h => ⟨fun e => absurd e (hx c (by simp)), goodL_app x y (fun d hd => hx d (List.mem_cons_of_mem _ hd)) h⟩
/-- Words that can stand between colons. -/
def WordsC (w : List (List UInt8)) : Prop := ∀ x ∈ w, x ≠ [] ∧ ∀ c ∈ x, c ≠ 58
theorem goodL_tail : ∀ (r : List (List UInt8)), WordsC r → goodL (joinTail [58] r)
  | [], _ => by simp [joinTail, goodL]
  | y :: r, h => by
    rw [joinTail_cons]
    obtain ⟨h1, h2⟩ := h y (by simp)
    obtain ⟨d, l, rfl⟩ := List.exists_cons_of_ne_nil h1
    exact ⟨fun _ => ⟨d, l ++ joinTail [58] r, rfl, h2 d (by simp)⟩, goodL_app _ _ h2 (goodL_tail r (fun x hx => h x (List.mem_cons_of_mem _ hx)))⟩
theorem goodL_join (w : List (List UInt8)) (h : WordsC w) : goodL (join w [58]) := by
  rcases w with _ | ⟨x, r⟩
  · simp [join, goodL]
  · rw [join_cons]
    exact goodL_app _ _ (h x (by simp)).2 (goodL_tail r (fun y hy => h y (List.mem_cons_of_mem _ hy)))
theorem index_dd (r : List UInt8) : ∀ x : List UInt8, goodL x → index (x ++ 58 :: 58 :: r) [58, 58] = x.length
  | [], _ => by simp [index, List.isPrefixOf]
  | c :: x, h => by
    have ih := index_dd r x h.2
    rw [List.cons_append, index]
    have hp : [58, 58].isPrefixOf (c :: (x ++ 58 :: 58 :: r)) = false := by
      by_cases hc : c = 58
      · obtain ⟨d, l, rfl, hd⟩ := h.1 hc
        simp [List.isPrefixOf, Ne.symm hd]
      · simp [List.isPrefixOf, Ne.symm hc]
    rw [hp, ih, if_neg (by decide), if_neg (by simp)]
    simp
theorem index_nodd : ∀ x : List UInt8, goodL x → index x [58, 58] = -1
  | [], _ => by simp [index]
  | c :: x, h => by
    have ih := index_nodd x h.2
    rw [index]
    have hp : [58, 58].isPrefixOf (c :: x) = false := by
      by_cases hc : c = 58
      · obtain ⟨d, l, rfl, hd⟩ := h.1 hc
        simp [List.isPrefixOf, Ne.symm hd]
      · simp [List.isPrefixOf, Ne.symm hc]
    rw [hp, ih, if_neg (by decide)]
    rfl
theorem wordsC_hex {g : List Nat} (h : ∀ n ∈ g, n < 65536) : WordsC (g.map hexL) := fun x hx => by
  obtain ⟨n, hn, rfl⟩ := List.mem_map.1 hx
  refine ⟨fun e => ?_, fun c hc => (hexC_ne (hexL_c (h n hn) c hc)).1⟩
  have := (hexL_len n).1
  rw [e] at this
  simp at this
theorem cut_dd (x r : List UInt8) (h : goodL x) : cut (x ++ [58, 58] ++ r) [58, 58] = (x, r, true) := by
  have hi := index_dd r x h
  rw [show x ++ [58, 58] ++ r = x ++ 58 :: 58 :: r by simp]
  unfold cut
  rw [hi]
  simp
theorem cut_nodd (x : List UInt8) (h : goodL x) : cut x [58, 58] = (x, [], false) := by
  unfold cut
  rw [index_nodd x h]
  simp
theorem contains_mid (x r : List UInt8) (c : UInt8) : contains (x ++ c :: r) [c] = true := by
  have : ∀ x : List UInt8, 0 ≤ index (x ++ c :: r) [c] := fun x => by
    induction x with
    | nil => simp [index, List.isPrefixOf]
    | cons b x ih =>
      rw [List.cons_append, index]
      by_cases hb : c = b
      · subst hb; simp [List.isPrefixOf]
      · have hp : [c].isPrefixOf (b :: (x ++ c :: r)) = false := by simp [List.isPrefixOf, hb]
        rw [hp, if_neg (by decide)]
        split
        · rename_i h; simp at h; omega
        · omega
  simp [contains, this x]
theorem contains_not (x : List UInt8) (c : UInt8) (h : c ∉ x) : contains x [c] = false := by
  simp [contains, index_free c x h]
end Go.Hw
