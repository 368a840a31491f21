/- Keys: kit.IsKey, kit.Outside. cmp.Compare at int. Links as they lie in memory; words for rows that the call owns. What is wrong with links: the words; cmp.Or, strings.Compare. laneref2.Key and what it calls. -/
import Derived.Test.YtajifionclpphaaGreatDoorPick
import Derived.Test.YtajifionclpphaaGreatDoorShelf
import Derived.Shelf.Strings.SlTrimAscii
import Derived.Deep.RegionHeld3
namespace Go.Proofs.YtajifionclpphaaGreatDoor
open Go.RowKit Go.Hw Go.Shelf

theorem ret_bool {a b : Bool} (h : a = b) : Ending.returned (.bool a) = .returned (.bool b) := by rw [h]

def keyByte (i c : Nat) : Bool := (decide (97 ≤ c) && decide (c ≤ 122)) || (decide (0 < i) && ((decide (48 ≤ c) && decide (c ≤ 57)) || decide (c = 45) || decide (c = 95)))
def isKey (s : ByteArray) : Bool := decide (∀ j (h : j < s.size), keyByte j s[j].toNat = true) && decide (0 < s.size) && decide (s.size ≤ 40)

theorem toList_nil {s : ByteArray} (h : s.size = 0) : s.toList = [] := by
  rw [ByteArray.toList_eq]
  exact List.eq_nil_of_length_eq_zero h
theorem size_of_nil {s : ByteArray} (h : s.toList = []) : s.size = 0 := by
  rw [ByteArray.toList_eq] at h
  have := congrArg List.length h
  exact this
theorem isKey_false {s : ByteArray} {k : Nat} (hk : k < s.size) (h : keyByte k s[k].toNat = false) : isKey s = false := by
  unfold isKey
  have : ¬ ∀ j (h : j < s.size), keyByte j s[j].toNat = true := fun hh => by rw [hh k hk] at h; cases h
  simp [this]

set_option maxRecDepth 100000 in
set_option maxHeartbeats 1000000 in
theorem isKey_any (s : ByteArray) (w : World) (hs : s.size ≤ maxLen) :
    Calls Tryz.prog 118 #[.string s] w fun e w' => e = .returned (.bool (isKey s)) ∧ w = w' := by
  unfold maxLen at hs
  go_enter Tryz.func118, Tryz.ntmps118
  go_wp2_with fail
  go_loop [3] (fun i => ∃ k : Nat, k ≤ s.size ∧ i = .int .i64 k ∧ Hid (∀ j (h : j < s.size), j < k → keyByte j s[j].toNat = true)) (fun i => s.size - (intOf i).toNat)
  case atStart => exact ⟨0, Nat.zero_le _, rfl, Lib.hid (fun j _ h => absurd h (by omega))⟩
  case round =>
    obtain ⟨k, hk, rfl, hrel⟩ := hrel
    by_cases hlt : k < s.size
    · have hb : s[k].toNat < 256 := s[k].toNat_lt
      have HF := Lib.hid (fun h => isKey_false (k := k) hlt h)
      have HT : Hid (keyByte k s[k].toNat = true → ∀ j (h : j < s.size), j < k + 1 → keyByte j s[j].toNat = true) := Lib.hid (fun h j hj hjk => by
        by_cases e : j = k
        · subst e; exact h
        · exact hrel.out j hj (by omega))
      clear hrel
      go_wp2_with fail
      all_goals first
        | (go_ret; exact ⟨ret_bool (HF.out (by unfold keyByte; generalize s[k].toNat = c at *; simp at *; omega)).symm, rfl⟩)
        | (go_round
           case rel => exact ⟨k + 1, by omega, by go_num, Lib.hid (HT.out (by unfold keyByte; generalize s[k].toNat = c at *; simp at *; omega))⟩
           case measure => simp [intOf]; omega)
    · have : k = s.size := by omega
      subst this
      by_cases h0 : s.size = 0
      · have h1 : s.toList = [] := toList_nil h0
        have HF : Hid (isKey s = false) := Lib.hid (by simp [isKey, h0])
        go_wp2_with fail
        go_ret
        exact ⟨ret_bool HF.out.symm, rfl⟩
      · have h1 : ¬ s.toList = [] := fun h => h0 (size_of_nil h)
        have h2 : s.toList.isEmpty = false := by cases h : s.toList <;> simp_all
        have HF : Hid (isKey s = decide ((s.size : Int) ≤ 40)) := Lib.hid (by
          have a : ∀ j (h : j < s.size), keyByte j s[j].toNat = true := fun j h => hrel.out j h h
          have b : decide (0 < s.size) = true := by simp; omega
          have c : decide ((s.size : Int) ≤ 40) = decide (s.size ≤ 40) := by
            by_cases h : s.size ≤ 40
            · rw [decide_eq_true h, decide_eq_true (by omega)]
            · rw [decide_eq_false h, decide_eq_false (by omega)]
          unfold isKey
          rw [decide_eq_true a, b, c]
          rfl)
        clear hrel
        go_wp2_with fail
        go_ret
        exact ⟨ret_bool HF.out.symm, rfl⟩

theorem outside_any (n lo hi : Int) (w : World) :
    Calls Tryz.prog 114 #[.int .i64 n, .int .i64 lo, .int .i64 hi] w fun e w' => e = .returned (.bool (decide (n < lo) || decide (hi < n))) ∧ w = w' := by
  by_cases h : n < lo
  · go_enter Tryz.func114, Tryz.ntmps114
    go_wp2
    go_ret
    exact ⟨ret_bool (by simp; omega), rfl⟩
  · go_enter Tryz.func114, Tryz.ntmps114
    go_wp2
    go_ret
    exact ⟨ret_bool (by simp; omega), rfl⟩

end Go.Proofs.YtajifionclpphaaGreatDoor

namespace Go.Proofs.YtajifionclpphaaGreatDoor
open Go.RowKit Go.Hw Go.Shelf

/-- The order of two numbers. -/
def cmpI (a b : Int) : Int := if a < b then -1 else if b < a then 1 else 0
theorem nan_int (a : Int) (w : World) : Calls Tryz.prog 121 #[.int .i64 a] w fun e w' => e = .returned (.bool false) ∧ w = w' := by
  have h : (a != a) = false := by simp
  go_enter Tryz.func121, Tryz.ntmps121
  go_wp2_with fail
  go_ret
  exact ⟨ret_bool (by simp), rfl⟩
theorem cmpI_any (a b : Int) (w : World) : Calls Tryz.prog 68 #[.int .i64 a, .int .i64 b] w fun e w' => e = .returned (.int .i64 (cmpI a b)) ∧ w = w' := by
  by_cases h1 : a < b
  · have HF : Hid (cmpI a b = -1) := Lib.hid (by unfold cmpI; rw [if_pos h1])
    go_enter Tryz.func68, Tryz.ntmps68
    go_wp2_with (go_at_call 121; refine (nan_int _ _).mono ?_; rintro e w' ⟨rfl, rfl⟩)
    go_ret
    exact ⟨ret_eq HF.out.symm, rfl⟩
  · by_cases h2 : b < a
    · have HF : Hid (cmpI a b = 1) := Lib.hid (by unfold cmpI; rw [if_neg h1, if_pos h2])
      go_enter Tryz.func68, Tryz.ntmps68
      go_wp2_with (go_at_call 121; refine (nan_int _ _).mono ?_; rintro e w' ⟨rfl, rfl⟩)
      go_ret
      exact ⟨ret_eq HF.out.symm, rfl⟩
    · have HF : Hid (cmpI a b = 0) := Lib.hid (by unfold cmpI; rw [if_neg h1, if_neg h2])
      go_enter Tryz.func68, Tryz.ntmps68
      go_wp2_with (go_at_call 121; refine (nan_int _ _).mono ?_; rintro e w' ⟨rfl, rfl⟩)
      go_ret
      exact ⟨ret_eq HF.out.symm, rfl⟩
end Go.Proofs.YtajifionclpphaaGreatDoor

namespace Go.Proofs.YtajifionclpphaaGreatDoor
open Go.RowKit Go.Hw

/-- A link as it lies in memory. -/
structure Lk where
  a : ByteArray
  b : ByteArray
  m : Int
theorem own_base {w : World} {base base' : Nat} {e : TypeId} {size : Nat} {v : Value} {n : Nat} {xs : List Value} (h : w.ownsRow base e size v n xs) (hb : base' ≤ base) : w.ownsRow base' e size v n xs := by
  obtain ⟨h1, h2 | ⟨g, cap, cur, h3, h4, h5⟩⟩ := h
  · exact ⟨h1, .inl h2⟩
  · exact ⟨h1, .inr ⟨g, cap, cur, h3, by omega, h5⟩⟩
theorem cells_new (w : World) (cs : List Value) (T : TypeId) : ∀ j u, cs[j]? = some u → (w.alloc (.cells cs.toArray T)).cell? ((⟨w.heap.size, 0, none⟩ : Addr).add j) = some u := by
  intro j u hu
  have hadd : (⟨w.heap.size, 0, none⟩ : Addr).add j = ⟨w.heap.size, j, none⟩ := by unfold Addr.add; split <;> simp_all
  rw [hadd]
  simp only [World.cell?, heap_alloc_new]
  simpa using hu
end Go.Proofs.YtajifionclpphaaGreatDoor

namespace Go.Proofs.YtajifionclpphaaGreatDoor
open Go.RowKit Go.Hw Go.Shelf

/-- The first number that is not 0. -/
def orOf : List Int → Int
  | [] => 0
  | x :: r => if x = 0 then orOf r else x
theorem orOf_drop {vs : List Int} {k : Nat} (h : ∀ j, j < k → vs.getD j 0 = 0) : orOf vs = orOf (vs.drop k) := by
  induction k generalizing vs with
  | zero => rfl
  | succ k ih =>
    cases vs with
    | nil => rfl
    | cons x r =>
      have h0 := h 0 (by omega)
      simp at h0
      rw [orOf, if_pos h0, List.drop_succ_cons]
      exact ih fun j hj => by simpa using h (j + 1) (by omega)

set_option maxHeartbeats 400000 in
theorem or_any (g : Nat) (vs : List Int) (w : World) (hg : w.heap[g]? = some (.cells (vs.map (Value.int .i64)).toArray 3 (0, 0))) (n c : Nat) (hn : n = vs.length) (hl : vs.length ≤ 1000000) :
    Calls Tryz.prog 133 #[.slice (some ⟨g, 0, none⟩) n c] w fun e w' => e = .returned (.int .i64 (orOf vs)) ∧ w = w' := by
  subst hn
  have hc : ∀ k, k < vs.length → w.cell? ⟨g, k, none⟩ = some (.int .i64 (vs.getD k 0)) := fun k hk => by
    simp [World.cell?, hg, List.getElem?_eq_getElem hk]
  clear hg
  have HC := Lib.hid hc
  clear hc
  go_enter Tryz.func133, Tryz.ntmps133
  go_wp2_with fail
  go_loop [8] (fun i => ∃ k : Nat, k ≤ vs.length ∧ i = .int .i64 k ∧ Hid (∀ j, j < k → vs.getD j 0 = 0)) (fun i => vs.length - (intOf i).toNat)
  case atStart => exact ⟨0, Nat.zero_le _, rfl, Lib.hid (fun j h => absurd h (by omega))⟩
  case round =>
    obtain ⟨k, hk, rfl, hrel⟩ := hrel
    by_cases hlt : k < vs.length
    · have hck := HC.out k hlt
      have HO := Lib.hid (orOf_drop hrel.out)
      have hcons : orOf (vs.drop k) = if vs.getD k 0 = 0 then orOf (vs.drop (k + 1)) else vs.getD k 0 := by
        rw [List.drop_eq_getElem_cons hlt]
        simp [orOf, List.getElem?_eq_getElem hlt]
      have HN := Lib.hid hcons
      have HR : Hid (vs.getD k 0 = 0 → ∀ j, j < k + 1 → vs.getD j 0 = 0) := Lib.hid fun h j hj => by
        by_cases e : j = k
        · rw [e]; exact h
        · exact hrel.out j (by omega)
      clear hrel hcons
      generalize vs.getD k 0 = x at *
      by_cases hx : x = 0
      · have hx1 : (x != 0) = false := by simp [hx]
        have HX := Lib.hid hx
        clear hx
        go_wp2_with fail
        go_round
        case rel => exact ⟨k + 1, by omega, by go_num, Lib.hid (HR.out HX.out)⟩
        case measure => simp [intOf]; omega
      · have hx1 : (x != 0) = true := by simp [hx]
        have HF : Hid (orOf vs = x) := Lib.hid (by rw [HO.out, HN.out, if_neg hx])
        clear hx
        go_wp2_with fail
        go_ret
        exact ⟨ret_eq HF.out.symm, rfl⟩
    · have : k = vs.length := by omega
      subst this
      have HF : Hid (orOf vs = 0) := Lib.hid (by rw [orOf_drop hrel.out, List.drop_length]; rfl)
      clear hrel
      go_wp2_with fail
      go_ret
      exact ⟨ret_eq HF.out.symm, rfl⟩

def noLk : Lk := ⟨ByteArray.empty, ByteArray.empty, 0⟩
/-- A slice of links lies in memory, below block B. -/
def LksAt (w : World) (B : Nat) (A : Option Addr) (xs : List Lk) : Prop :=
  ∀ i, i < xs.length → ∃ g off, A = some ⟨g, off, none⟩ ∧ g < B ∧ w.cell? ⟨g, off + i * 3, none⟩ = some (.string (xs.getD i noLk).a) ∧ w.cell? ⟨g, off + i * 3 + 1, none⟩ = some (.string (xs.getD i noLk).b) ∧
    w.cell? ⟨g, off + i * 3 + 2, none⟩ = some (.int .i64 (xs.getD i noLk).m)
theorem LksAt.keep {w w' : World} {B : Nat} {A : Option Addr} {xs : List Lk} (h : LksAt w B A xs) (hk : ∀ p : Addr, p.block < B → w'.cell? p = w.cell? p) : LksAt w' B A xs := fun i hi =>
  let ⟨g, off, h1, h2, h3, h4, h5⟩ := h i hi
  ⟨g, off, h1, h2, (hk _ h2).trans h3, (hk _ h2).trans h4, (hk _ h2).trans h5⟩
theorem LksAt.below {w w' : World} {B : Nat} {A : Option Addr} {xs : List Lk} (h : LksAt w B A xs) (hb : Below B w w') : LksAt w' B A xs := h.keep fun _ hp => hb.cell hp

end Go.Proofs.YtajifionclpphaaGreatDoor

namespace Go.Proofs.YtajifionclpphaaGreatDoor
open Go.RowKit Go.Hw Go.Shelf

theorem in2_any (n lo hi : Int) (w : World) :
    Calls Tryz.prog 173 #[.int .i64 n, .int .i64 lo, .int .i64 hi] w fun e w' => e = .returned (.bool (decide (lo ≤ n) && decide (n ≤ hi))) ∧ w = w' := by
  by_cases h : lo ≤ n
  · go_enter Tryz.func173, Tryz.ntmps173
    go_wp2
    go_ret
    exact ⟨ret_bool (by simp; omega), rfl⟩
  · go_enter Tryz.func173, Tryz.ntmps173
    go_wp2
    go_ret
    exact ⟨ret_bool (by simp; omega), rfl⟩
def allIn (l cs : List UInt8) : Bool := l.all (cs.contains ·)
theorem dropWhile_all {l : List UInt8} {p : UInt8 → Bool} : l.dropWhile p = [] ↔ l.all p = true := by
  induction l with
  | nil => simp
  | cons a l ih =>
    rw [List.dropWhile_cons]
    by_cases h : p a = true
    · simp only [h, if_true, ih, List.all_cons, Bool.true_and]
    · simp [h]
theorem trim_nil (l cs : List UInt8) : (Lib.trimS l cs).isEmpty = allIn l cs := by
  unfold Lib.trimS Lib.trimLeftS Lib.trimRightS allIn
  rw [Bool.eq_iff_iff, List.isEmpty_iff, dropWhile_all]
  constructor
  · intro h
    rw [List.all_eq_true] at h
    have h2 : l.reverse.dropWhile (cs.contains ·) = [] := by
      cases hd : l.reverse.dropWhile (cs.contains ·) with
      | nil => rfl
      | cons a r =>
        rw [hd] at h
        have h3 := h a (by simp)
        have := List.head?_dropWhile_not (cs.contains ·) l.reverse
        rw [hd] at this
        simp at this h3
        exact absurd h3 this
    rw [dropWhile_all, List.all_reverse] at h2
    exact h2
  · intro h
    have : l.reverse.dropWhile (cs.contains ·) = [] := by rw [dropWhile_all, List.all_reverse]; exact h
    rw [this]
    rfl

theorem Tryz.infoSet : (Tryz.prog.info? 353).map (fun i => (i.zero, i.size)) = some (some (.agg (Array.replicate 256 (.bool false))), 256) := by kernel_rfl
theorem trim_calls (s cutset : ByteArray) (w : World) (hs : s.size ≤ maxLen) (hcs : cutset.size < 4294967281) (hascii : ∀ (j : Nat) b, cutset.data.toList[j]? = some b → b.toNat < 128) :
    Calls Tryz.prog 235 #[.string s, .string cutset] w fun e w' => e = .returned (.string ⟨(Lib.trimS s.data.toList cutset.data.toList).toArray⟩) ∧ Below w.heap.size w w' :=
  Any.strings_Trim_laid Tryz.lays160 Tryz.infoSet s cutset w hs hcs hascii
theorem only_any (s cutset : ByteArray) (w : World) (hs : s.size ≤ maxLen) (hcs : cutset.size < 4294967281) (hascii : ∀ (j : Nat) b, cutset.data.toList[j]? = some b → b.toNat < 128) :
    Calls Tryz.prog 174 #[.string s, .string cutset] w fun e w' => e = .returned (.bool (allIn s.data.toList cutset.data.toList)) ∧ Below w.heap.size w w' := by
  have h1 := trim_nil s.data.toList cutset.data.toList
  go_enter Tryz.func174, Tryz.ntmps174
  go_wp2_with fail
  refine (trim_calls s cutset _ hs hcs hascii).mono ?_
  rintro e w' ⟨rfl, hb⟩
  generalize Lib.trimS s.data.toList cutset.data.toList = t at *
  have H1 := Lib.hid h1
  clear h1
  go_wp2_with fail
  go_ret
  refine ⟨ret_bool ?_, hb⟩
  rw [← H1.out]

def smallSet : ByteArray := ⟨#[97, 98, 99, 100, 101, 102, 103, 104, 105, 106, 107, 108, 109, 110, 111, 112, 113, 114, 115, 116, 117, 118, 119, 120, 121, 122]⟩
def bigSet : ByteArray := ⟨#[97, 98, 99, 100, 101, 102, 103, 104, 105, 106, 107, 108, 109, 110, 111, 112, 113, 114, 115, 116, 117, 118, 119, 120, 121, 122, 48, 49, 50, 51, 52, 53, 54, 55, 56, 57, 45, 95]⟩
theorem small_byte : ∀ n, n < 256 → smallSet.data.toList.contains (UInt8.ofNat n) = keyByte 0 n := by decide +kernel
theorem big_byte : ∀ n, n < 256 → bigSet.data.toList.contains (UInt8.ofNat n) = keyByte 1 n := by decide +kernel
theorem small_of (c : UInt8) : smallSet.data.toList.contains c = keyByte 0 c.toNat := by
  have := small_byte c.toNat c.toNat_lt
  rwa [UInt8.ofNat_toNat] at this
theorem big_of (c : UInt8) : bigSet.data.toList.contains c = keyByte 1 c.toNat := by
  have := big_byte c.toNat c.toNat_lt
  rwa [UInt8.ofNat_toNat] at this
theorem keyByte_pos {j c : Nat} (h : 0 < j) : keyByte j c = keyByte 1 c := by unfold keyByte; simp [h]
theorem keyByte_zero {c : Nat} (h : keyByte 0 c = true) : keyByte 1 c = true := by
  unfold keyByte at *; simp at *; omega
theorem isKey_parts (s : ByteArray) (h1 : 1 ≤ s.size) (h2 : s.size ≤ 40) :
    isKey s = (allIn (s.extract 0 1).data.toList smallSet.data.toList && allIn s.data.toList bigSet.data.toList) := by
  have e1 : (s.extract 0 1).data.toList = [s[0]] := by
    have : (s.extract 0 1).data = s.data.extract 0 1 := by simp
    rw [this, Array.toList_extract]
    obtain ⟨⟨l⟩⟩ := s
    cases l with
    | nil => simp [ByteArray.size] at h1
    | cons a r => rfl
  rw [e1]
  have hb : allIn [s[0]] smallSet.data.toList = keyByte 0 s[0].toNat := by simp only [allIn, List.all_cons, List.all_nil, Bool.and_true]; exact small_of _
  rw [hb]
  unfold isKey
  have a1 : decide (0 < s.size) = true := by simp; omega
  have a2 : decide (s.size ≤ 40) = true := by simp; omega
  rw [a1, a2, Bool.and_true, Bool.and_true, Bool.eq_iff_iff, decide_eq_true_iff, Bool.and_eq_true]
  have hl : ∀ j (h : j < s.size), s.data.toList[j]'(by simpa using h) = s[j] := fun j h => rfl
  constructor
  · intro h
    refine ⟨h 0 (by omega), ?_⟩
    unfold allIn
    rw [List.all_eq_true]
    intro x hx
    obtain ⟨j, hj, e⟩ := List.getElem_of_mem hx
    have hj' : j < s.size := by simpa using hj
    rw [hl j hj'] at e
    rw [big_of, ← e]
    have := h j hj'
    by_cases h0 : j = 0
    · subst h0; exact keyByte_zero this
    · rwa [keyByte_pos (by omega)] at this
  · rintro ⟨g1, g2⟩ j hj
    by_cases h0 : j = 0
    · subst h0; exact g1
    · rw [keyByte_pos (by omega), ← big_of]
      unfold allIn at g2
      rw [List.all_eq_true] at g2
      exact g2 _ (by rw [← hl j hj]; exact List.getElem_mem _)

set_option maxRecDepth 100000 in
set_option maxHeartbeats 1000000 in
theorem key_any (s : ByteArray) (w : World) (hs : s.size ≤ maxLen) :
    Calls Tryz.prog 109 #[.string s] w fun e w' => e = .returned (.bool (isKey s)) ∧ Below w.heap.size w w' := by
  have hs' := hs
  unfold maxLen at hs'
  by_cases hr : 1 ≤ s.size ∧ s.size ≤ 40
  · have hfin := isKey_parts s hr.1 hr.2
    have HF := Lib.hid hfin
    clear hfin
    obtain ⟨r1, r2⟩ := hr
    have hin : (decide ((1 : Int) ≤ (s.size : Int)) && decide ((s.size : Int) ≤ 40)) = true := by simp; omega
    go_enter Tryz.func109, Tryz.ntmps109
    go_wp2_with fail
    refine (in2_any _ _ _ _).mono ?_
    rintro e w' ⟨rfl, rfl⟩
    rw [hin]
    clear hin
    have hsm : (s.extract 0 1).size ≤ maxLen := by unfold maxLen; simp; omega
    cases hb : allIn (s.extract 0 1).data.toList smallSet.data.toList
    · go_wp2_with fail
      refine (only_any (s.extract 0 1) smallSet _ hsm (by decide) (ascii_of_all (by decide))).mono ?_
      rintro e w1 ⟨rfl, hb1⟩
      have HF2 : Hid (isKey s = false) := Lib.hid (by rw [HF.out, hb]; rfl)
      rw [hb]
      clear hb
      go_wp2_with fail
      go_ret
      exact ⟨ret_bool HF2.out.symm, hb1⟩
    · go_wp2_with fail
      refine (only_any (s.extract 0 1) smallSet _ hsm (by decide) (ascii_of_all (by decide))).mono ?_
      rintro e w1 ⟨rfl, hb1⟩
      have HF2 : Hid (isKey s = allIn s.data.toList bigSet.data.toList) := Lib.hid (by rw [HF.out, hb]; rfl)
      rw [hb]
      clear hb
      go_wp2_with fail
      refine (only_any s bigSet _ hs (by decide) (ascii_of_all (by decide))).mono ?_
      rintro e w2 ⟨rfl, hb2⟩
      go_wp2_with fail
      go_ret
      exact ⟨ret_bool HF2.out.symm, hb1.trans (hb2.mono hb1.size)⟩
  · have hfin : isKey s = false := by unfold isKey; simp; omega
    have HF := Lib.hid hfin
    clear hfin
    have hin : (decide ((1 : Int) ≤ (s.size : Int)) && decide ((s.size : Int) ≤ 40)) = false := by simp; omega
    go_enter Tryz.func109, Tryz.ntmps109
    go_wp2_with fail
    refine (in2_any _ _ _ _).mono ?_
    rintro e w' ⟨rfl, rfl⟩
    rw [hin]
    clear hin
    go_wp2_with fail
    go_ret
    exact ⟨ret_bool HF.out.symm, Below.refl _ _⟩
end Go.Proofs.YtajifionclpphaaGreatDoor
