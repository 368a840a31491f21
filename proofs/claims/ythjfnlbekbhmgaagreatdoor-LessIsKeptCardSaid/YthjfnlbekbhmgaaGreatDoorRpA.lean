/- Reports: their order, putting together those of one key; no program in sight. -/
import Derived.Test.YthjfnlbekbhmgaaGreatDoorPkA
import Derived.Test.YthjfnlbekbhmgaaGreatDoorRwS
import Derived.Test.YthjfnlbekbhmgaaGreatDoorFlt
import Derived.Test.YthjfnlbekbhmgaaGreatDoorCmpJ
import Derived.Lib.Bytealg
namespace Go.Proofs.YthjfnlbekbhmgaaGreatDoor
open Go.RowKit Go.Hw

structure Rp where
  node : ByteArray
  hour : Int
  out : Bool
  f : Fl
  pk : Int
  by_ : Int
def noRp : Rp := ⟨ByteArray.empty, 0, false, noFl, 0, 0⟩

structure GoodC {α : Type} (c : α → α → Int) : Prop where
  anti : ∀ a b, c a b = - c b a
  trans : ∀ a b d, c a b ≤ 0 → c b d ≤ 0 → c a d ≤ 0
theorem GoodC.self {α : Type} {c : α → α → Int} (h : GoodC c) (a : α) : c a a = 0 := by have := h.anti a a; omega
theorem GoodC.on {α β : Type} {c : α → α → Int} (h : GoodC c) (k : β → α) : GoodC (fun a b => c (k a) (k b)) := ⟨fun _ _ => h.anti _ _, fun _ _ _ => h.trans _ _ _⟩
theorem orOf_cons (a : Int) (rs : List Int) : orOf (a :: rs) = if a = 0 then orOf rs else a := rfl
theorem orOf_nil : orOf [] = 0 := rfl
def orL {α : Type} (cs : List (α → α → Int)) (a b : α) : Int := orOf (cs.map (fun c => c a b))
theorem orL_cons {α : Type} (c : α → α → Int) (cs : List (α → α → Int)) (a b : α) : orL (c :: cs) a b = if c a b = 0 then orL cs a b else c a b := rfl
theorem orL_good {α : Type} : ∀ cs : List (α → α → Int), (∀ c ∈ cs, GoodC c) → GoodC (orL cs)
  | [], _ => ⟨fun _ _ => rfl, fun _ _ _ _ _ => Int.le_refl 0⟩
  | c :: cs, h => by
    have hc := h c (by simp)
    have ht := orL_good cs (fun d hd => h d (by simp [hd]))
    constructor
    · intro a b
      rw [orL_cons, orL_cons]
      have := hc.anti a b
      have := ht.anti a b
      split <;> split <;> omega
    · intro a b d h1 h2
      rw [orL_cons] at h1 h2 ⊢
      have t1 := hc.trans a b d
      have t2 := hc.trans d a b
      have t3 := hc.trans b d a
      have a1 := hc.anti a b
      have a2 := hc.anti b d
      have a3 := hc.anti a d
      have tt := ht.trans a b d
      split at h1 <;> split at h2 <;> split <;> first | omega | (exact tt h1 h2)
theorem orL_zero {α : Type} {a b : α} : ∀ {cs : List (α → α → Int)}, orL cs a b = 0 → ∀ c ∈ cs, c a b = 0
  | [], _, _, hc => by simp at hc
  | d :: cs, h, c, hc => by
    rw [orL_cons] at h
    split at h
    · rename_i hd
      rcases List.mem_cons.1 hc with rfl | hc
      · exact hd
      · exact orL_zero h c hc
    · exact absurd h (by assumption)
theorem cmpI_good : GoodC cmpI := ⟨fun a b => by unfold cmpI; split <;> split <;> omega, fun a b d h1 h2 => by unfold cmpI at *; split at h1 <;> split at h2 <;> split <;> first | omega | (split at h1 <;> split at h2 <;> first | omega | (split <;> omega))⟩
theorem cmpI_zero {a b : Int} (h : cmpI a b = 0) : a = b := by unfold cmpI at h; split at h <;> first | omega | (split at h <;> omega)
def cmpB (a b : Bool) : Int := if a == b then 0 else if b then -1 else 1
theorem cmpB_good : GoodC cmpB := ⟨by decide, by decide⟩
theorem cmpB_zero {a b : Bool} (h : cmpB a b = 0) : a = b := by revert h; revert a b; decide
def cmpS (a b : ByteArray) : Int := Lib.compareBytes a.data.toList b.data.toList
theorem bytes_anti : ∀ a b : List UInt8, Lib.compareBytes a b = - Lib.compareBytes b a
  | [], [] => rfl
  | [], _ :: _ => by simp [Lib.compareBytes]
  | _ :: _, [] => by simp [Lib.compareBytes]
  | a :: aa, b :: bs => by
    have ih := bytes_anti aa bs
    unfold Lib.compareBytes
    simp only [UInt8.lt_iff_toNat_lt]
    split <;> split <;> first | omega | (split <;> omega) | skip
theorem bytes_zero : ∀ {a b : List UInt8}, Lib.compareBytes a b = 0 → a = b
  | [], [], _ => rfl
  | [], _ :: _, h => by simp [Lib.compareBytes] at h
  | _ :: _, [], h => by simp [Lib.compareBytes] at h
  | a :: aa, b :: bs, h => by
    unfold Lib.compareBytes at h
    simp only [UInt8.lt_iff_toNat_lt] at h
    split at h
    · omega
    · split at h
      · omega
      · have : a = b := UInt8.toNat_inj.1 (by omega)
        rw [this, bytes_zero h]
theorem bytes_trans : ∀ {a b d : List UInt8}, Lib.compareBytes a b ≤ 0 → Lib.compareBytes b d ≤ 0 → Lib.compareBytes a d ≤ 0
  | [], [], d, _, h => h
  | [], _ :: _, [], _, h => by simp [Lib.compareBytes] at h
  | [], _ :: _, _ :: _, _, _ => by simp [Lib.compareBytes]
  | _ :: _, [], _, h, _ => by simp [Lib.compareBytes] at h
  | _ :: _, _ :: _, [], _, h => by simp [Lib.compareBytes] at h
  | a :: aa, b :: bs, d :: ds, h1, h2 => by
    have ih := @bytes_trans aa bs ds
    unfold Lib.compareBytes at h1 h2 ⊢
    simp only [UInt8.lt_iff_toNat_lt] at h1 h2 ⊢
    split at h1 <;> split at h2 <;> split <;> first | omega | skip
    all_goals (try split at h1) <;> (try split at h2) <;> (try split) <;> first | omega | (exact ih h1 h2)
theorem cmpS_good : GoodC cmpS := ⟨fun _ _ => bytes_anti _ _, fun _ _ _ => bytes_trans⟩
theorem cmpS_zero {a b : ByteArray} (h : cmpS a b = 0) : a = b := by
  exact ByteArray.ext (Array.toList_inj.1 (bytes_zero h))
structure Ad where
  six : Bool
  hi : Int
  lo : Int
def cmpA : Ad → Ad → Int := orL [fun a b => cmpB a.six b.six, fun a b => cmpI a.hi b.hi, fun a b => cmpI a.lo b.lo]
theorem cmpA_good : GoodC cmpA := orL_good _ (by
  intro c hc
  simp at hc
  rcases hc with rfl | rfl | rfl
  · exact cmpB_good.on Ad.six
  · exact cmpI_good.on Ad.hi
  · exact cmpI_good.on Ad.lo)
theorem cmpA_zero {a b : Ad} (h : cmpA a b = 0) : a = b := by
  have h1 := cmpB_zero (orL_zero h (fun a b => cmpB a.six b.six) (by simp))
  have h2 := cmpI_zero (orL_zero h (fun a b => cmpI a.hi b.hi) (by simp))
  have h3 := cmpI_zero (orL_zero h (fun a b => cmpI a.lo b.lo) (by simp))
  cases a; cases b; simp at h1 h2 h3; simp [h1, h2, h3]
def srcA (f : Fl) : Ad := ⟨f.s6, f.sh, f.sl⟩
def dstA (f : Fl) : Ad := ⟨f.t6, f.th, f.tl⟩
def cmpF : Fl → Fl → Int := orL [fun a b => cmpI a.proto b.proto, fun a b => cmpA (srcA a) (srcA b), fun a b => cmpA (dstA a) (dstA b), fun a b => cmpI a.fp b.fp, fun a b => cmpI a.tp b.tp]
theorem cmpF_good : GoodC cmpF := orL_good _ (by
  intro c hc
  simp at hc
  rcases hc with rfl | rfl | rfl | rfl | rfl
  · exact cmpI_good.on Fl.proto
  · exact cmpA_good.on srcA
  · exact cmpA_good.on dstA
  · exact cmpI_good.on Fl.fp
  · exact cmpI_good.on Fl.tp)
theorem cmpF_zero {a b : Fl} (h : cmpF a b = 0) : a = b := by
  have h1 := cmpI_zero (orL_zero h (fun a b => cmpI a.proto b.proto) (by simp))
  have h2 := cmpA_zero (orL_zero h (fun a b => cmpA (srcA a) (srcA b)) (by simp))
  have h3 := cmpA_zero (orL_zero h (fun a b => cmpA (dstA a) (dstA b)) (by simp))
  have h4 := cmpI_zero (orL_zero h (fun a b => cmpI a.fp b.fp) (by simp))
  have h5 := cmpI_zero (orL_zero h (fun a b => cmpI a.tp b.tp) (by simp))
  cases a; cases b; simp [srcA, dstA] at h1 h2 h3 h4 h5; simp [h1, h2, h3, h4, h5]
def cmpR : Rp → Rp → Int := orL [fun a b => cmpI a.hour b.hour, fun a b => cmpS a.node b.node, fun a b => cmpB a.out b.out, fun a b => cmpF a.f b.f]
theorem cmpR_good : GoodC cmpR := orL_good _ (by
  intro c hc
  simp at hc
  rcases hc with rfl | rfl | rfl | rfl
  · exact cmpI_good.on Rp.hour
  · exact cmpS_good.on Rp.node
  · exact cmpB_good.on Rp.out
  · exact cmpF_good.on Rp.f)
/-- What two reports tell of is the same. -/
def sameK (a b : Rp) : Prop := a.hour = b.hour ∧ a.node = b.node ∧ a.out = b.out ∧ a.f = b.f
theorem cmpR_zero {a b : Rp} (h : cmpR a b = 0) : sameK a b :=
  ⟨cmpI_zero (orL_zero h (fun a b => cmpI a.hour b.hour) (by simp)), cmpS_zero (orL_zero h (fun a b => cmpS a.node b.node) (by simp)), cmpB_zero (orL_zero h (fun a b => cmpB a.out b.out) (by simp)), cmpF_zero (orL_zero h (fun a b => cmpF a.f b.f) (by simp))⟩
theorem cmpR_key {a b c d : Rp} (h1 : sameK a b) (h2 : sameK c d) : cmpR a c = cmpR b d := by
  obtain ⟨a1, a2, a3, a4⟩ := h1
  obtain ⟨b1, b2, b3, b4⟩ := h2
  simp [cmpR, orL, a1, a2, a3, a4, b1, b2, b3, b4]

section
variable {α : Type} {c : α → α → Int}
theorem insR_sorted (hc : GoodC c) (x : α) : ∀ R : List α, R.Pairwise (fun y z => c z y ≤ 0) → (insR (fun a b => decide (c a b < 0)) x R).Pairwise (fun y z => c z y ≤ 0)
  | [], _ => by simp [insR]
  | y :: ys, h => by
    obtain ⟨h1, h2⟩ := List.pairwise_cons.1 h
    unfold insR
    split
    · rename_i hxy
      have hxy : c x y < 0 := by simpa using hxy
      refine List.pairwise_cons.2 ⟨fun z hz => ?_, insR_sorted hc x ys h2⟩
      rcases insR_mem.1 hz with rfl | hz
      · omega
      · exact h1 z hz
    · rename_i hxy
      have hxy : ¬ c x y < 0 := by simpa using hxy
      have hyx : c y x ≤ 0 := by have := hc.anti x y; omega
      refine List.pairwise_cons.2 ⟨fun z hz => ?_, h⟩
      rcases List.mem_cons.1 hz with rfl | hz
      · exact hyx
      · exact hc.trans _ _ _ (h1 z hz) hyx
theorem isortL_sorted (hc : GoodC c) (L : List α) : (isortL (fun a b => decide (c a b < 0)) L).Pairwise (fun x y => c x y ≤ 0) := by
  unfold isortL isortR
  rw [List.pairwise_reverse]
  have : ∀ (L acc : List α), acc.Pairwise (fun y z => c z y ≤ 0) → (L.foldl (fun acc x => insR (fun a b => decide (c a b < 0)) x acc) acc).Pairwise (fun y z => c z y ≤ 0) := by
    intro L
    induction L with
    | nil => intro acc h; exact h
    | cons x L ih => intro acc h; exact ih _ (insR_sorted hc x acc h)
  exact this L [] List.Pairwise.nil
theorem isortL_fixed (hc : GoodC c) : ∀ (n : Nat) (L : List α), L.length = n → L.Pairwise (fun x y => c x y ≤ 0) → isortL (fun a b => decide (c a b < 0)) L = L := by
  intro n
  induction n with
  | zero => intro L hn _; rw [List.length_eq_zero_iff.1 hn]; rfl
  | succ n ih =>
    intro L hn h
    have hne : L ≠ [] := fun e => by simp [e] at hn
    rw [← List.dropLast_concat_getLast hne] at h ⊢
    obtain ⟨h1, -, h3⟩ := List.pairwise_append.1 h
    rw [isortL_last, ih _ (by simp [hn]) h1]
    intro y hy
    have := h3 y hy _ (List.mem_singleton.2 rfl)
    have := hc.anti y (L.getLast hne)
    simp
    omega
end
/-- Two reports that tell of the same, as one. -/
def addR (o r : Rp) : Rp := { o with pk := min (o.pk + r.pk) 1000000000000, by_ := min (o.by_ + r.by_) 1000000000000 }
def mgR (acc : List Rp) (r : Rp) : List Rp :=
  if 0 < acc.length ∧ cmpR (acc.getD (acc.length - 1) noRp) r = 0 then acc.set (acc.length - 1) (addR (acc.getD (acc.length - 1) noRp) r) else acc ++ [r]
def mgL (acc : List Rp) (L : List Rp) : List Rp := L.foldl mgR acc
def ltR (a b : Rp) : Bool := decide (cmpR a b < 0)
def togL (L : List Rp) : List Rp := mgL [] (isortL ltR L)
theorem mgR_nil (r : Rp) : mgR [] r = [r] := by simp [mgR]
theorem mgR_snoc (A : List Rp) (o r : Rp) : mgR (A ++ [o]) r = if cmpR o r = 0 then A ++ [addR o r] else A ++ [o] ++ [r] := by
  have h1 : (A ++ [o]).length - 1 = A.length := by simp
  have h2 : (A ++ [o]).getD A.length noRp = o := by simp [List.getD_eq_getElem?_getD]
  unfold mgR
  rw [h1, h2]
  by_cases h : cmpR o r = 0
  · rw [if_pos ⟨by simp, h⟩, if_pos h]
    simp
  · rw [if_neg (fun c => h c.2), if_neg h]
theorem addR_key (o r : Rp) : sameK (addR o r) o := ⟨rfl, rfl, rfl, rfl⟩
theorem sameK.symm {a b : Rp} (h : sameK a b) : sameK b a := ⟨h.1.symm, h.2.1.symm, h.2.2.1.symm, h.2.2.2.symm⟩
theorem sameK.refl (a : Rp) : sameK a a := ⟨rfl, rfl, rfl, rfl⟩
theorem sameK.trans {a b c : Rp} (h : sameK a b) (k : sameK b c) : sameK a c := ⟨h.1.trans k.1, h.2.1.trans k.2.1, h.2.2.1.trans k.2.2.1, h.2.2.2.trans k.2.2.2⟩
def Strict (L : List Rp) : Prop := L.Pairwise (fun x y => cmpR x y < 0)
theorem strict_snoc {A : List Rp} {o : Rp} : Strict (A ++ [o]) ↔ Strict A ∧ ∀ x ∈ A, cmpR x o < 0 := by
  unfold Strict
  rw [List.pairwise_append]
  simp
theorem lt_of_lt_le {a b d : Rp} (h1 : cmpR a b < 0) (h2 : cmpR b d ≤ 0) : cmpR a d < 0 := by
  have hc := cmpR_good
  have t1 := hc.trans a b d (by omega) h2
  by_cases h : cmpR a d = 0
  · exfalso
    have h3 := hc.anti a d
    have := hc.trans b d a h2 (by omega)
    have := hc.anti a b
    omega
  · omega
theorem snoc_of {L : List Rp} (h : L ≠ []) : ∃ A o, L = A ++ [o] := ⟨_, _, (List.dropLast_concat_getLast h).symm⟩
/-- Putting together keeps the order strict; the last one is not behind what comes. -/
theorem mg_strict : ∀ (L acc : List Rp), Strict acc → (acc ++ L).Pairwise (fun x y => cmpR x y ≤ 0) → Strict (mgL acc L)
  | [], acc, h, _ => h
  | r :: L, acc, h, hp => by
    show Strict (mgL (mgR acc r) L)
    obtain ⟨p1, p2, p3⟩ := List.pairwise_append.1 hp
    obtain ⟨q1, q2⟩ := List.pairwise_cons.1 p2
    by_cases he : acc = []
    · subst he
      rw [mgR_nil]
      exact mg_strict L [r] (by simp [Strict]) (by simpa using hp)
    · obtain ⟨A, o, rfl⟩ := snoc_of he
      obtain ⟨s1, s2⟩ := strict_snoc.1 h
      rw [mgR_snoc]
      split
      · rename_i hz
        refine mg_strict L _ (strict_snoc.2 ⟨s1, fun x hx => ?_⟩) ?_
        · rw [cmpR_key (sameK.refl x) (addR_key o r)]; exact s2 x hx
        · refine List.pairwise_append.2 ⟨?_, q2, fun x hx y hy => ?_⟩
          · have := strict_snoc.2 ⟨s1, fun x hx => (show cmpR x (addR o r) < 0 by rw [cmpR_key (sameK.refl x) (addR_key o r)]; exact s2 x hx)⟩
            exact this.imp (fun h => by omega)
          · rcases List.mem_append.1 hx with hx | hx
            · exact p3 x (by simp [hx]) y (by simp [hy])
            · rw [List.mem_singleton.1 hx, cmpR_key (addR_key o r) (sameK.refl y)]
              exact p3 o (by simp) y (by simp [hy])
      · rename_i hz
        have hor : cmpR o r < 0 := by have := p3 o (by simp) r (by simp); omega
        refine mg_strict L _ (strict_snoc.2 ⟨h, fun x hx => ?_⟩) (by simpa using hp)
        rcases List.mem_append.1 hx with hx | hx
        · exact lt_of_lt_le (s2 x hx) (by omega)
        · rw [List.mem_singleton.1 hx]; exact hor
theorem mg_fixed : ∀ (L acc : List Rp), Strict (acc ++ L) → mgL acc L = acc ++ L
  | [], acc, _ => by simp [mgL]
  | r :: L, acc, h => by
    show mgL (mgR acc r) L = _
    have hh : mgR acc r = acc ++ [r] := by
      by_cases he : acc = []
      · subst he; rw [mgR_nil]; rfl
      · obtain ⟨A, o, rfl⟩ := snoc_of he
        rw [mgR_snoc, if_neg]
        have := (List.pairwise_append.1 h).2.2 o (by simp) r (by simp)
        omega
    rw [hh, mg_fixed L (acc ++ [r]) (by simpa using h)]
    simp
theorem togL_strict (L : List Rp) : Strict (togL L) := mg_strict _ [] List.Pairwise.nil (isortL_sorted cmpR_good L)
theorem togL_fixed {L : List Rp} (h : Strict L) : togL L = L := by
  unfold togL
  rw [show isortL ltR L = L from isortL_fixed cmpR_good _ L rfl (h.imp (fun h => by omega))]
  exact mg_fixed L [] h
/-- What holds of all reports, whatever the key, holds of those that are put together. -/
theorem mg_all {P : Rp → Prop} (hP : ∀ o r, P o → P r → sameK o r → P (addR o r)) : ∀ (L acc : List Rp), (∀ x ∈ acc, P x) → (∀ x ∈ L, P x) → ∀ x ∈ mgL acc L, P x
  | [], acc, h, _ => h
  | r :: L, acc, h, hL => by
    show ∀ x ∈ mgL (mgR acc r) L, P x
    refine mg_all hP L _ ?_ (fun x hx => hL x (by simp [hx]))
    have hr := hL r (by simp)
    by_cases he : acc = []
    · subst he; rw [mgR_nil]; intro x hx; rw [List.mem_singleton.1 hx]; exact hr
    · obtain ⟨A, o, rfl⟩ := snoc_of he
      rw [mgR_snoc]
      split
      · rename_i hz
        intro x hx
        rcases List.mem_append.1 hx with hx | hx
        · exact h x (by simp [hx])
        · rw [List.mem_singleton.1 hx]; exact hP o r (h o (by simp)) hr (cmpR_zero hz)
      · intro x hx
        rcases List.mem_append.1 hx with hx | hx
        · exact h x hx
        · rw [List.mem_singleton.1 hx]; exact hr
theorem togL_all {P : Rp → Prop} (hP : ∀ o r, P o → P r → sameK o r → P (addR o r)) {L : List Rp} (h : ∀ x ∈ L, P x) : ∀ x ∈ togL L, P x :=
  mg_all hP _ [] (by simp) (fun x hx => h x (isortL_mem.1 hx))
theorem mg_len : ∀ (L acc : List Rp), (mgL acc L).length ≤ acc.length + L.length
  | [], acc => by simp [mgL]
  | r :: L, acc => by
    have := mg_len L (mgR acc r)
    have h2 : (mgR acc r).length ≤ acc.length + 1 := by unfold mgR; split <;> simp
    show (mgL (mgR acc r) L).length ≤ _
    simp; omega
theorem togL_len (L : List Rp) : (togL L).length ≤ L.length := by
  have := mg_len (isortL ltR L) []
  rw [isortL_length] at this
  show (mgL [] (isortL ltR L)).length ≤ _
  simpa using this
def sumBy (k : Rp → Int) (L : List Rp) : Int := (L.map k).sum
theorem sumBy_app (k : Rp → Int) (A B : List Rp) : sumBy k (A ++ B) = sumBy k A + sumBy k B := by simp [sumBy]
theorem sumBy_one (k : Rp → Int) (r : Rp) : sumBy k [r] = k r := by simp [sumBy]
theorem sumBy_cons (k : Rp → Int) (r : Rp) (L : List Rp) : sumBy k (r :: L) = k r + sumBy k L := by simp [sumBy]
theorem sumBy_nonneg {k : Rp → Int} : ∀ {L : List Rp}, (∀ x ∈ L, 0 ≤ k x) → 0 ≤ sumBy k L
  | [], _ => by simp [sumBy]
  | r :: L, h => by
    rw [sumBy_cons]
    have := h r (by simp)
    have := sumBy_nonneg (L := L) (fun x hx => h x (by simp [hx]))
    omega
theorem sumBy_perm {k : Rp → Int} {A B : List Rp} (h : A.Perm B) : sumBy k A = sumBy k B := by
  unfold sumBy
  induction h with
  | nil => rfl
  | cons x _ ih => simp [ih]
  | swap x y l => simp; omega
  | trans _ _ h1 h2 => exact h1.trans h2
def Pos (r : Rp) : Prop := 0 ≤ r.pk ∧ 0 ≤ r.by_
theorem mg_sum : ∀ (L acc : List Rp), (∀ x ∈ acc, Pos x) → (∀ x ∈ L, Pos x) → sumBy Rp.pk (acc ++ L) ≤ 1000000000000 → sumBy Rp.by_ (acc ++ L) ≤ 1000000000000 → sumBy Rp.pk (mgL acc L) = sumBy Rp.pk (acc ++ L) ∧ sumBy Rp.by_ (mgL acc L) = sumBy Rp.by_ (acc ++ L)
  | [], acc, _, _, _, _ => by simp [mgL]
  | r :: L, acc, h, hL, h1, h2 => by
    show sumBy Rp.pk (mgL (mgR acc r) L) = _ ∧ sumBy Rp.by_ (mgL (mgR acc r) L) = _
    have hr := hL r (by simp)
    have hL' : ∀ x ∈ L, Pos x := fun x hx => hL x (by simp [hx])
    have n1 := sumBy_nonneg (k := Rp.pk) (fun x hx => (hL' x hx).1)
    have n2 := sumBy_nonneg (k := Rp.by_) (fun x hx => (hL' x hx).2)
    rw [sumBy_app, sumBy_cons] at h1 h2
    suffices hs : (∀ x ∈ mgR acc r, Pos x) ∧ sumBy Rp.pk (mgR acc r) = sumBy Rp.pk acc + r.pk ∧ sumBy Rp.by_ (mgR acc r) = sumBy Rp.by_ acc + r.by_ by
      obtain ⟨s1, s2, s3⟩ := hs
      obtain ⟨e1, e2⟩ := mg_sum L (mgR acc r) s1 hL' (by rw [sumBy_app, s2]; omega) (by rw [sumBy_app, s3]; omega)
      refine ⟨?_, ?_⟩
      · rw [e1, sumBy_app, sumBy_app, sumBy_cons, s2]; omega
      · rw [e2, sumBy_app, sumBy_app, sumBy_cons, s3]; omega
    by_cases he : acc = []
    · subst he; rw [mgR_nil]
      exact ⟨fun x hx => by rw [List.mem_singleton.1 hx]; exact hr, by simp [sumBy], by simp [sumBy]⟩
    · obtain ⟨A, o, rfl⟩ := snoc_of he
      rw [mgR_snoc]
      have ho := h o (by simp)
      split
      · have m1 := sumBy_nonneg (k := Rp.pk) (L := A) (fun x hx => (h x (by simp [hx])).1)
        have m2 := sumBy_nonneg (k := Rp.by_) (L := A) (fun x hx => (h x (by simp [hx])).2)
        rw [sumBy_app, sumBy_one] at h1 h2
        have e1 : (addR o r).pk = o.pk + r.pk := by show min (o.pk + r.pk) 1000000000000 = _; have := hr.1; have := ho.1; omega
        have e2 : (addR o r).by_ = o.by_ + r.by_ := by show min (o.by_ + r.by_) 1000000000000 = _; have := hr.2; have := ho.2; omega
        refine ⟨fun x hx => ?_, ?_, ?_⟩
        · rcases List.mem_append.1 hx with hx | hx
          · exact h x (by simp [hx])
          · rw [List.mem_singleton.1 hx]; exact ⟨by rw [e1]; have := hr.1; have := ho.1; omega, by rw [e2]; have := hr.2; have := ho.2; omega⟩
        · simp only [sumBy_app, sumBy_one, e1]; omega
        · simp only [sumBy_app, sumBy_one, e2]; omega
      · refine ⟨fun x hx => ?_, ?_, ?_⟩
        · rcases List.mem_append.1 hx with hx | hx
          · exact h x hx
          · rw [List.mem_singleton.1 hx]; exact hr
        · simp only [sumBy_app, sumBy_one]
        · simp only [sumBy_app, sumBy_one]
end Go.Proofs.YthjfnlbekbhmgaaGreatDoor
