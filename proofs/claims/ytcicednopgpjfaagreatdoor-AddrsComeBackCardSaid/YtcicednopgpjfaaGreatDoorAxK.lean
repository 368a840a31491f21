/- The plain law of addr.Parse and addr.Text: what is written is read as it was. -/
import Derived.Test.YtcicednopgpjfaaGreatDoorAxI
namespace Go.Proofs.YtcicednopgpjfaaGreatDoor
open Go.RowKit Go.Hw Go.Shelf
theorem groupsF_some {gap : Bool} {g h : Option (List Nat)} {x : Bool × Nat × Nat} (H : looseG gap g h = some x) : ∃ xs ys, g = some xs ∧ h = some ys ∧ x = (true, packW ((eightW xs ys).take 4), packW ((eightW xs ys).drop 4)) := by
  cases g with
  | none => cases H
  | some xs =>
    cases h with
    | none => cases H
    | some ys =>
      refine ⟨xs, ys, rfl, rfl, ?_⟩
      by_cases hb : (gap && decide (7 < xs.length + ys.length) || !gap && decide (xs.length ≠ 8)) = true
      · have e : looseG gap (some xs) (some ys) = none := if_pos hb
        rw [e] at H
        cases H
      · have e : looseG gap (some xs) (some ys) = some (true, packW ((eightW xs ys).take 4), packW ((eightW xs ys).drop 4)) := if_neg hb
        rw [e] at H
        injection H with H
        exact H.symm
/-- What Parse reads. -/
def parseF (s : List UInt8) : Option (Bool × Nat × Nat) :=
  match looseF s with
  | some (b, hi, lo) => if textA b hi lo = s then some (b, hi, lo) else none
  | none => none
theorem parseF_text {s : List UInt8} {b : Bool} {hi lo : Nat} (h : parseF s = some (b, hi, lo)) : textA b hi lo = s := by
  unfold parseF at h
  split at h
  · split at h
    · rename_i hc
      injection h with h
      injection h with h1 h2
      injection h2 with h2 h3
      subst h1 h2 h3
      exact hc
    · cases h
  · cases h
/-! The text of an address is read back. -/
theorem four_small : ∀ n : Fin 256, fourW (Lib.decDigits n.val) = true ∧ numV (Lib.decDigits n.val) 3 = (n.val : Int) ∧ (46 : UInt8) ∉ Lib.decDigits n.val ∧ (58 : UInt8) ∉ Lib.decDigits n.val ∧ (47 : UInt8) ∉ Lib.decDigits n.val := by decide +kernel
theorem four_eq (lo : Nat) : fourL lo = [Lib.decDigits (lo / 2 ^ 24 % 256), Lib.decDigits (lo / 2 ^ 16 % 256), Lib.decDigits (lo / 2 ^ 8 % 256), Lib.decDigits (lo / 2 ^ 0 % 256)] := rfl
theorem four_mem {lo : Nat} {x : List UInt8} (h : x ∈ fourL lo) : ∃ n : Fin 256, x = Lib.decDigits n.val := by
  simp only [fourL, List.mem_map] at h
  obtain ⟨i, _, rfl⟩ := h
  exact ⟨⟨_, Nat.mod_lt _ (by decide)⟩, rfl⟩
theorem four_split (lo : Nat) : Lib.split (Lib.join (fourL lo) [46]) [46] = fourL lo := by
  rw [four_eq]
  refine split_join 46 _ _ (four_small ⟨_, Nat.mod_lt _ (by decide)⟩).2.2.1 (fun y hy => ?_)
  obtain ⟨n, rfl⟩ := four_mem (lo := lo) (x := y) (by rw [four_eq]; exact List.mem_cons_of_mem _ hy)
  exact (four_small n).2.2.1
theorem fourF_text {lo : Nat} (h : lo < 4294967296) : fourF (Lib.join (fourL lo) [46]) = some lo := by
  have ha : (fourL lo).all fourW = true := by
    rw [List.all_eq_true]
    intro x hx
    obtain ⟨n, rfl⟩ := four_mem hx
    exact (four_small n).1
  unfold fourF
  rw [four_split, if_pos ⟨four_len lo, ha⟩]
  congr 1
  have e : ∀ m, (numV (Lib.decDigits (m % 256)) 3).toNat = m % 256 := fun m => by
    rw [(four_small ⟨m % 256, Nat.mod_lt _ (by decide)⟩).2.1]
    exact Int.toNat_natCast _
  rw [four_eq]
  simp only [fourN, List.foldl, e]
  omega
/-- A byte that stands in no word stands not in what is joined. -/
theorem join_free {c b : UInt8} {l : List (List UInt8)} (hb : c ≠ b) (h : ∀ x ∈ l, c ∉ x) : c ∉ Lib.join l [b] := by
  rcases l with _ | ⟨x, r⟩
  · simp [Lib.join]
  · rw [Lib.join_cons]
    intro hc
    rcases List.mem_append.1 hc with hc | hc
    · exact h x (by simp) hc
    · simp only [Lib.joinTail, List.mem_flatten, List.mem_map] at hc
      obtain ⟨y, ⟨z, hz, rfl⟩, hy⟩ := hc
      rcases List.mem_append.1 hy with hy | hy
      · exact hb (by simpa using hy)
      · exact h z (List.mem_cons_of_mem _ hz) hy
theorem four_free (lo : Nat) {c : UInt8} (h : c = 58 ∨ c = 47) : c ∉ Lib.join (fourL lo) [46] := by
  refine join_free (by rcases h with rfl | rfl <;> decide) (fun x hx => ?_)
  obtain ⟨n, rfl⟩ := four_mem hx
  rcases h with rfl | rfl
  · exact (four_small n).2.2.2.1
  · exact (four_small n).2.2.2.2
theorem hexC_d {c : UInt8} (h : hexC c) : hexD c = true ∧ hexV2 c = hexV c ∧ c ≠ 47 := by
  unfold hexC at h
  have hn : c ≠ 47 := by rintro rfl; revert h; decide
  refine ⟨?_, ?_, hn⟩
  · simp only [hexD, Bool.or_eq_true, Bool.and_eq_true, decide_eq_true_eq]
    omega
  · unfold hexV2 hexV
    split
    · rfl
    · rw [if_pos (by omega)]
theorem hexP2_eq : ∀ (x : List UInt8) (a : Nat), (∀ c ∈ x, hexC c) → x.foldl (fun a c => a * 16 + hexV2 c) a = x.foldl (fun a c => a * 16 + hexV c) a
  | [], _, _ => rfl
  | c :: x, a, h => by
    simp only [List.foldl]
    rw [(hexC_d (h c (by simp))).2.1]
    exact hexP2_eq x _ (fun d hd => h d (List.mem_cons_of_mem _ hd))
theorem hexP2_L {n : Nat} (h : n < 65536) : hexP2 (hexL n) = n := (hexP2_eq _ 0 (hexL_c h)).trans (hexP_L h)
theorem grW_L {n : Nat} (h : n < 65536) : grW (hexL n) = true := by
  have hl := hexL_len n
  unfold grW
  simp only [Bool.and_eq_true, decide_eq_true_eq, List.all_eq_true]
  refine ⟨⟨?_, hl.2⟩, fun c hc => (hexC_d (hexL_c h c hc)).1⟩
  cases hx : hexL n with
  | nil => rw [hx] at hl; simp at hl
  | cons _ _ => rfl
theorem hexL_free {n : Nat} (h : n < 65536) {c : UInt8} (hc : c = 58 ∨ c = 46 ∨ c = 47) : c ∉ hexL n := fun e => by
  have := hexL_c h c e
  rcases hc with rfl | rfl | rfl <;> (unfold hexC at this; revert this; decide)
theorem grF_L (last : Bool) : ∀ (g : List Nat), (∀ n ∈ g, n < 65536) → grF last (g.map hexL) = some g
  | [], _ => rfl
  | n :: g, h => by
    have hn := h n (by simp)
    rw [List.map_cons, grF, contains_not _ _ (hexL_free hn (by simp)), Bool.and_false, if_neg (by decide), if_pos (grW_L hn), grF_L last g (fun m hm => h m (List.mem_cons_of_mem _ hm)), hexP2_L hn]
    rfl
theorem groupsF_L (last : Bool) (g : List Nat) (h : ∀ n ∈ g, n < 65536) : groupsF (Lib.join (g.map hexL) [58]) last = some g := by
  rcases g with _ | ⟨n, g⟩
  · rfl
  · have hs : Lib.split (Lib.join ((n :: g).map hexL) [58]) [58] = (n :: g).map hexL := by
      refine split_join 58 _ _ (hexL_free (h n (by simp)) (by simp)) (fun y hy => ?_)
      obtain ⟨m, hm, rfl⟩ := List.mem_map.1 hy
      exact hexL_free (h m (List.mem_cons_of_mem _ hm)) (by simp)
    unfold groupsF
    rw [hs, grF_L last _ h, if_neg]
    intro e
    rw [List.map_cons, Lib.join_cons] at e
    have := (hexL_len n).1
    rw [(List.append_eq_nil_iff.1 e).1] at this
    simp at this
theorem six_lt (hi lo : Nat) : ∀ n ∈ sixG hi lo, n < 65536 := fun n hn => by
  obtain ⟨i, _, rfl⟩ := List.mem_map.1 hn
  exact gN_lt hi lo i
theorem six_words8 (hi lo : Nat) : (sixG hi lo).length = 8 := by simp [sixG]
theorem six_hi {hi : Nat} (lo : Nat) (h : hi < 18446744073709551616) : packW ((sixG hi lo).take 4) = hi := by
  show (((0 * 65536 + hi / 2 ^ 48 % 65536) * 65536 + hi / 2 ^ 32 % 65536) * 65536 + hi / 2 ^ 16 % 65536) * 65536 + hi / 2 ^ 0 % 65536 = hi
  omega
theorem six_lo (hi : Nat) {lo : Nat} (h : lo < 18446744073709551616) : packW ((sixG hi lo).drop 4) = lo := by
  show (((0 * 65536 + lo / 2 ^ 48 % 65536) * 65536 + lo / 2 ^ 32 % 65536) * 65536 + lo / 2 ^ 16 % 65536) * 65536 + lo / 2 ^ 0 % 65536 = lo
  omega
theorem eight_back {g : List Nat} (h8 : g.length = 8) {f m : Nat} (h : zAll g f m) : eightW (g.take f) (g.drop (f + m)) = g := by
  have hf : f + m ≤ 8 := by have := h.1; omega
  unfold eightW
  rw [List.length_take, List.length_drop, h8, show 8 - (min f 8 + (8 - (f + m))) = m by omega]
  refine List.ext_getElem? fun i => ?_
  by_cases h1 : i < f
  · rw [List.getElem?_append_left (by rw [List.length_take]; omega), List.getElem?_take_of_lt h1]
  · rw [List.getElem?_append_right (by rw [List.length_take]; omega), List.length_take, show min f g.length = f by omega]
    by_cases h2 : i < f + m
    · rw [List.getElem?_append_left (by rw [List.length_replicate]; omega), List.getElem?_replicate, if_pos (by omega)]
      have := h.2 i (by omega) h2
      rw [List.getD_eq_getElem?_getD] at this
      rw [List.getElem?_eq_getElem (by omega)] at this ⊢
      simpa using this.symm
    · rw [List.getElem?_append_right (by rw [List.length_replicate]; omega), List.length_replicate, List.getElem?_drop]
      congr 1
      omega
theorem textG_read {hi lo : Nat} : Lib.contains (textG (sixG hi lo)) [58] = true ∧ looseG (Lib.cut (textG (sixG hi lo)) [58, 58]).2.2 (groupsF (Lib.cut (textG (sixG hi lo)) [58, 58]).1 (!(Lib.cut (textG (sixG hi lo)) [58, 58]).2.2)) (groupsF (Lib.cut (textG (sixG hi lo)) [58, 58]).2.1 true) = some (true, packW ((sixG hi lo).take 4), packW ((sixG hi lo).drop 4)) := by
  have hlt := six_lt hi lo
  have h8 := six_words8 hi lo
  have hz := zeroF_all (sixG hi lo)
  generalize hg : sixG hi lo = g at *
  unfold textG
  by_cases hm : (zeroF g).2 < 2
  · rw [if_pos hm, cut_nodd _ (goodL_join _ (wordsC_hex hlt))]
    constructor
    · rcases g with _ | ⟨a, _ | ⟨b, r⟩⟩
      · simp at h8
      · simp at h8
      · rw [List.map_cons, Lib.join_cons, List.map_cons, joinTail_cons]
        exact contains_mid _ _ _
    · show looseG false (groupsF (Lib.join (g.map hexL) [58]) true) (groupsF [] true) = _
      rw [groupsF_L true g hlt]
      show looseG false (some g) (some []) = _
      unfold looseG
      dsimp only
      rw [if_neg (by simp [h8])]
      have : eightW g [] = g := by simp [eightW, h8]
      rw [this]
  · rw [if_neg hm]
    have ht : ∀ n ∈ g.take (zeroF g).1, n < 65536 := fun n hn => hlt n (List.mem_of_mem_take hn)
    have hd : ∀ n ∈ g.drop ((zeroF g).1 + (zeroF g).2), n < 65536 := fun n hn => hlt n (List.mem_of_mem_drop hn)
    rw [← List.map_take, ← List.map_drop, cut_dd _ _ (goodL_join _ (wordsC_hex ht))]
    constructor
    · rw [show Lib.join (List.map hexL (g.take (zeroF g).1)) [58] ++ [58, 58] ++ Lib.join (List.map hexL (g.drop ((zeroF g).1 + (zeroF g).2))) [58] = Lib.join (List.map hexL (g.take (zeroF g).1)) [58] ++ 58 :: (58 :: Lib.join (List.map hexL (g.drop ((zeroF g).1 + (zeroF g).2))) [58]) by simp]
      exact contains_mid _ _ _
    · show looseG true (groupsF (Lib.join ((g.take (zeroF g).1).map hexL) [58]) false) (groupsF (Lib.join ((g.drop ((zeroF g).1 + (zeroF g).2)).map hexL) [58]) true) = _
      rw [groupsF_L _ _ ht, groupsF_L _ _ hd]
      have hl := hz.1
      unfold looseG
      dsimp only
      rw [if_neg, eight_back h8 hz]
      simp only [Bool.true_and, Bool.not_true, Bool.false_and, Bool.or_false, decide_eq_true_eq, List.length_take, List.length_drop]
      omega
theorem looseF_text {six : Bool} {hi lo : Nat} (h : AdOk six hi lo) : looseF (textA six hi lo) = some (six, hi, lo) := by
  obtain ⟨h1, h2, h3⟩ := h
  cases six
  · obtain ⟨rfl, h4⟩ := h3 rfl
    unfold looseF textA
    rw [if_neg (by decide : ¬ (false = true)), contains_not _ _ (four_free lo (.inl rfl)), if_neg (by decide), fourF_text h4]
    rfl
  · unfold looseF textA
    rw [if_pos rfl, if_pos (textG_read).1, (textG_read).2, six_hi lo h1, six_lo hi h2]
theorem packW_4 {l : List Nat} (h : ∀ x ∈ l, x < 65536) (hl : l.length ≤ 4) : packW l < 18446744073709551616 := by
  have h1 := packW_fold l 0 h
  have h2 : 65536 ^ l.length ≤ 65536 ^ 4 := Nat.pow_le_pow_right (by decide) hl
  unfold packW
  omega
theorem looseG_len {gap : Bool} {xs ys : List Nat} {x : Bool × Nat × Nat} (H : looseG gap (some xs) (some ys) = some x) (h : gap = false → ys = []) : (eightW xs ys).length = 8 := by
  unfold looseG at H
  dsimp only at H
  split at H
  · cases H
  · rename_i hc
    unfold eightW
    rw [List.length_append, List.length_append, List.length_replicate]
    cases gap
    · have := h rfl
      subst this
      simp at hc ⊢
      omega
    · simp at hc
      omega
theorem looseF_ok {s : List UInt8} {six : Bool} {hi lo : Nat} (h : looseF s = some (six, hi, lo)) : AdOk six hi lo := by
  unfold looseF at h
  split at h
  · obtain ⟨xs, ys, hx, hy, e⟩ := groupsF_some h
    have h8 := looseG_len (by rw [hx, hy] at h; exact h) (fun hg => by
      rw [cut_gap hg] at hy
      injection hy with hy
      exact hy.symm)
    injection e with e1 e2
    injection e2 with e2 e3
    have hxs := (groupsF_ok hx).2
    have hys := (groupsF_ok hy).2
    have hall : ∀ n ∈ eightW xs ys, n < 65536 := fun n hn => by
      unfold eightW at hn
      rcases List.mem_append.1 hn with hn | hn
      · exact hxs n hn
      · rcases List.mem_append.1 hn with hn | hn
        · have := List.eq_of_mem_replicate hn
          omega
        · exact hys n hn
    refine ⟨?_, ?_, fun e => ?_⟩
    · rw [e2]
      exact packW_4 (fun n hn => hall n (List.mem_of_mem_take hn)) (by rw [List.length_take]; omega)
    · rw [e3]
      exact packW_4 (fun n hn => hall n (List.mem_of_mem_drop hn)) (by rw [List.length_drop, h8]; omega)
    · rw [e1] at e; cases e
  · cases hf : fourF s with
    | none => rw [hf] at h; cases h
    | some n =>
      rw [hf] at h
      simp only [Option.map_some, Option.some.injEq, Prod.mk.injEq] at h
      obtain ⟨rfl, rfl, rfl⟩ := h
      have := fourF_lt hf
      exact ⟨by omega, by omega, fun _ => ⟨rfl, this⟩⟩
theorem textG_free (hi lo : Nat) : (47 : UInt8) ∉ textG (sixG hi lo) := by
  have hlt := six_lt hi lo
  generalize sixG hi lo = g at *
  have hj : ∀ l : List Nat, (∀ n ∈ l, n < 65536) → (47 : UInt8) ∉ Lib.join (l.map hexL) [58] := fun l hl => join_free (by decide) (fun x hx => by
    obtain ⟨n, hn, rfl⟩ := List.mem_map.1 hx
    exact hexL_free (hl n hn) (by simp))
  unfold textG
  split
  · exact hj g hlt
  · rw [← List.map_take, ← List.map_drop]
    intro hc
    rcases List.mem_append.1 hc with hc | hc
    · rcases List.mem_append.1 hc with hc | hc
      · exact hj _ (fun n hn => hlt n (List.mem_of_mem_take hn)) hc
      · simp at hc
    · exact hj _ (fun n hn => hlt n (List.mem_of_mem_drop hn)) hc
theorem textA_free (six : Bool) (hi lo : Nat) : (47 : UInt8) ∉ textA six hi lo := by
  cases six
  · exact four_free lo (.inr rfl)
  · exact textG_free hi lo
theorem cut_slash (x r : List UInt8) (h : (47 : UInt8) ∉ x) : Lib.cut (x ++ 47 :: r) [47] = (x, r, true) := by
  unfold Lib.cut
  rw [index_joined 47 x r h]
  simp
theorem bits_small : ∀ n : Fin 129, numOk (Lib.decDigits n.val) 3 = true ∧ numV (Lib.decDigits n.val) 3 = (n.val : Int) ∧ (Lib.decDigits n.val).length ≤ 3 := by decide +kernel
theorem parseF_text2 {six : Bool} {hi lo : Nat} (h : AdOk six hi lo) : parseF (textA six hi lo) = some (six, hi, lo) := by
  unfold parseF
  rw [looseF_text h]
  exact if_pos rfl
theorem parseF_loose {s : List UInt8} {x : Bool × Nat × Nat} (h : parseF s = some x) : looseF s = some x := by
  unfold parseF at h
  split at h
  · rename_i hl
    split at h
    · rw [hl, ← h]
    · cases h
  · cases h
end Go.Proofs.YtcicednopgpjfaaGreatDoor
