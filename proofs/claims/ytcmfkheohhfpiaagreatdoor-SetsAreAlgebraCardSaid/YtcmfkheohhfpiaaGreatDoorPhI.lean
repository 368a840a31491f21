/- The plain law of the sizes of sets: the numbers in a union and in what two sets share are together those of both. No program is in it. math/bits.Div64 at the divisor 10 ^ 18: the digits' law (plain). math/bits.Div64 at the divisor 10 ^ 18. strconv.FormatUint at base 10, for every uint64 (AxB has it below 256 alone). The plain law of count.text and of sizes: what digits laid together, and digits summed, are worth. No program is in it. (*count).add: a number of three words and a power of two. count.text: the decimal digits of a number of three words, eighteen at a time. addr.Size: how many addresses a set has, in digits. slices.Reverse at a row of bytes that the call owns; the law's own sum of two sizes. -/
import Derived.Test.YtcmfkheohhfpiaaGreatDoorStR
import Derived.Test.YtcmfkheohhfpiaaGreatDoorSwC
import Derived.Lib.ItoaMem
import Derived.Lib.AppendIntMem
import Derived.Laws.IdiomStrings
import Derived.OwnWalk
import Derived.Lib.ItoaNum
import Derived.Test.YtcmfkheohhfpiaaGreatDoorRgE
import Derived.Test.YtcmfkheohhfpiaaGreatDoorRwB
import Derived.Test.YtcmfkheohhfpiaaGreatDoorRgX
import Derived.Laws.BitsAllLaws
import Derived.Laws.ShiftsVarLaws
import Derived.Deep.RegionHeld3
import Derived.Deep.RegionLaw
import Derived.Deep.Cut
import Derived.Deep.CutRange
import Derived.ChangeKeysEq
import Derived.Laws.StructEq
import Derived.Shelf.Spec.BitsCarry
import Derived.Test.YtcmfkheohhfpiaaGreatDoorShelf
import Derived.Deep.LoopGhost
import Derived.Test.YtcmfkheohhfpiaaGreatDoorSvL
import Derived.Test.YtcmfkheohhfpiaaGreatDoorShelg
namespace Go.Proofs.YtcmfkheohhfpiaaGreatDoor

/-- How many numbers below k a predicate holds of. -/
def cntB (p : Nat → Bool) : Nat → Nat
  | 0 => 0
  | k + 1 => cntB p k + (if p k then 1 else 0)
theorem cntB_two (p q : Nat → Bool) : ∀ k, cntB (fun n => p n || q n) k + cntB (fun n => p n && q n) k = cntB p k + cntB q k
  | 0 => rfl
  | k + 1 => by
    have := cntB_two p q k
    simp only [cntB]
    by_cases hp : p k = true <;> by_cases hq : q k = true <;> simp [hp, hq] <;> omega
theorem cntB_none {p : Nat → Bool} (h : ∀ n, p n = false) : ∀ k, cntB p k = 0
  | 0 => rfl
  | k + 1 => by simp [cntB, cntB_none h k, h k]
theorem cntB_same {p q : Nat → Bool} (h : ∀ n, p n = q n) (k : Nat) : cntB p k = cntB q k := by rw [funext h]
def inB (x : Sn) (n : Nat) : Bool := decide (x.1 ≤ n) && decide (n < x.2)
theorem cntB_in (x : Sn) : ∀ k, cntB (inB x) k = min k x.2 - min k x.1
  | 0 => by simp [cntB]
  | k + 1 => by
    rw [cntB, cntB_in x k, inB]
    by_cases h1 : x.1 ≤ k <;> by_cases h2 : k < x.2 <;> simp [h1, h2] <;> omega
def hasB (S : List Sn) (n : Nat) : Bool := S.any (fun x => inB x n)
theorem hasB_iff (S : List Sn) (n : Nat) : hasB S n = true ↔ hasS S n := by
  simp [hasB, hasS, inB]
/-- How many numbers lie in a row of ranges. -/
def lenS : List Sn → Nat
  | [] => 0
  | x :: S => (x.2 - x.1) + lenS S
theorem cntB_has (k : Nat) : ∀ {S : List Sn}, NormS S → (∀ x ∈ S, x.2 ≤ k) → cntB (hasB S) k = lenS S
  | [], _, _ => cntB_none (fun n => by simp [hasB]) k
  | x :: S, h, hk => by
    have hS : NormS S := ⟨fun y hy => h.ok y (List.mem_cons_of_mem _ hy), (List.pairwise_cons.1 h.gap).2⟩
    have e1 := cntB_has k hS (fun y hy => hk y (List.mem_cons_of_mem _ hy))
    have e2 := cntB_two (inB x) (hasB S) k
    have e3 : cntB (fun n => inB x n && hasB S n) k = 0 := by
      refine cntB_none (fun n => ?_) k
      rw [Bool.and_eq_false_iff]
      by_cases hx : inB x n = true
      · refine Or.inr ?_
        rw [Bool.eq_false_iff]
        intro hh
        obtain ⟨y, hy, h1, h2⟩ := (hasB_iff S n).1 hh
        have := (List.pairwise_cons.1 h.gap).1 y hy
        simp [inB] at hx
        omega
      · exact Or.inl (by simpa using hx)
    have e4 : cntB (hasB (x :: S)) k = cntB (fun n => inB x n || hasB S n) k := cntB_same (fun n => by simp [hasB]) k
    have e5 := cntB_in x k
    have h2 := hk x (List.mem_cons_self ..)
    have h1 := h.ok x (List.mem_cons_self ..)
    rw [lenS, e4]
    omega
theorem topOf : ∀ S : List Sn, ∃ k, ∀ x ∈ S, x.2 ≤ k
  | [] => ⟨0, fun _ h => by cases h⟩
  | x :: S => by
    obtain ⟨k, hk⟩ := topOf S
    refine ⟨max k x.2, fun y hy => ?_⟩
    rcases List.mem_cons.1 hy with rfl | hy
    · omega
    · have := hk y hy; omega
/-- What is in both and what is in one or the other have as many numbers together as the two sets. -/
theorem lenS_two {A B U M : List Sn} (hA : NormS A) (hB : NormS B) (hU : NormS U) (hM : NormS M)
    (u : ∀ n, hasS U n ↔ hasS A n ∨ hasS B n) (m : ∀ n, hasS M n ↔ hasS A n ∧ hasS B n) : lenS U + lenS M = lenS A + lenS B := by
  obtain ⟨k, hk⟩ := topOf (A ++ B ++ U ++ M)
  have e := cntB_two (hasB A) (hasB B) k
  rw [cntB_has k hA (fun x hx => hk x (by simp [hx])), cntB_has k hB (fun x hx => hk x (by simp [hx])),
    ← cntB_same (p := hasB U) (q := fun n => hasB A n || hasB B n) (fun n => by rw [Bool.eq_iff_iff, hasB_iff, Bool.or_eq_true, hasB_iff, hasB_iff]; exact u n),
    ← cntB_same (p := hasB M) (q := fun n => hasB A n && hasB B n) (fun n => by rw [Bool.eq_iff_iff, hasB_iff, Bool.and_eq_true, hasB_iff, hasB_iff]; exact m n),
    cntB_has k hU (fun x hx => hk x (by simp [hx])), cntB_has k hM (fun x hx => hk x (by simp [hx]))] at e
  exact e

/-- How many numbers lie in a row of blocks. -/
def lenB : List Bk → Nat
  | [] => 0
  | b :: l => 2 ^ b.2 + lenB l
theorem lenB_append : ∀ (a b : List Bk), lenB (a ++ b) = lenB a + lenB b
  | [], b => by simp [lenB]
  | x :: a, b => by simp only [List.cons_append, lenB, lenB_append a b]; omega
theorem lenB_pre : ∀ (k a e : Nat), e - a ≤ k → lenB (preG a e) = e - a
  | 0, a, e, hk => by rw [preG_none (by omega)]; simp [lenB]; omega
  | k + 1, a, e, hk => by
    by_cases h : a < e
    · have hp := Nat.two_pow_pos (bigM a e)
      have hl := (bigM_law h).2.1
      rw [preG_some h, lenB, lenB_pre k _ _ (by omega)]
      show 2 ^ bigM a e + (e - (a + 2 ^ bigM a e)) = e - a
      omega
    · rw [preG_none h]; simp [lenB]; omega
theorem lenB_preS : ∀ S : List Sn, lenB (preS S) = lenS S
  | [] => rfl
  | x :: S => by
    have e : preS (x :: S) = preG x.1 x.2 ++ preS S := by simp [preS]
    rw [e, lenB_append, lenB_pre _ _ _ (Nat.le_refl _), lenB_preS S, lenS]

/-! Numbers in decimal digits. -/
/-- What a row of digits is worth, the highest first. -/
def worth (l : List Nat) : Nat := l.foldl (fun n d => 10 * n + d) 0
theorem worth_from : ∀ (l : List Nat) (n : Nat), l.foldl (fun n d => 10 * n + d) n = n * 10 ^ l.length + worth l
  | [], n => by simp [worth]
  | d :: l, n => by
    have e1 := worth_from l (10 * n + d)
    have e2 := worth_from l d
    have e3 : worth (d :: l) = l.foldl (fun n d => 10 * n + d) d := by simp [worth]
    rw [List.foldl_cons, e1, e3, e2, List.length_cons, Nat.pow_succ, Nat.add_mul, Nat.mul_comm 10 n, Nat.mul_assoc, Nat.mul_comm 10]
    omega
theorem worth_append (a b : List Nat) : worth (a ++ b) = worth a * 10 ^ b.length + worth b := by
  rw [worth, List.foldl_append, worth_from]; rfl
theorem worth_cons (d : Nat) (l : List Nat) : worth (d :: l) = d * 10 ^ l.length + worth l := by
  have := worth_append [d] l
  simpa [worth] using this
theorem worth_zeros : ∀ n, worth (List.replicate n 0) = 0
  | 0 => rfl
  | n + 1 => by rw [List.replicate_succ, worth_cons, worth_zeros n]; omega
theorem worth_lt : ∀ (l : List Nat), (∀ d ∈ l, d < 10) → worth l < 10 ^ l.length
  | [], _ => by simp [worth]
  | d :: l, h => by
    have h1 := worth_lt l (fun x hx => h x (List.mem_cons_of_mem _ hx))
    have h2 := h d (List.mem_cons_self ..)
    rw [worth_cons, List.length_cons, Nat.pow_succ]
    have : d * 10 ^ l.length ≤ 9 * 10 ^ l.length := Nat.mul_le_mul_right _ (by omega)
    omega
theorem worth_inj : ∀ (a b : List Nat), a.length = b.length → (∀ d ∈ a, d < 10) → (∀ d ∈ b, d < 10) → worth a = worth b → a = b
  | [], [], _, _, _, _ => rfl
  | [], _ :: _, h, _, _, _ => by simp at h
  | _ :: _, [], h, _, _, _ => by simp at h
  | d :: a, e :: b, hl, ha, hb, hw => by
    have hl' : a.length = b.length := by simpa using hl
    have h1 := worth_lt a (fun x hx => ha x (List.mem_cons_of_mem _ hx))
    have h2 := worth_lt b (fun x hx => hb x (List.mem_cons_of_mem _ hx))
    rw [worth_cons, worth_cons, hl'] at hw
    rw [hl'] at h1
    have hde : d = e := by
      rcases Nat.lt_trichotomy d e with h | h | h
      · have := Nat.mul_le_mul_right (10 ^ b.length) (show d + 1 ≤ e from h)
        rw [Nat.add_mul] at this
        omega
      · exact h
      · have := Nat.mul_le_mul_right (10 ^ b.length) (show e + 1 ≤ d from h)
        rw [Nat.add_mul] at this
        omega
    subst hde
    rw [worth_inj a b hl' (fun x hx => ha x (List.mem_cons_of_mem _ hx)) (fun x hx => hb x (List.mem_cons_of_mem _ hx)) (by omega)]
/-- Rows of digits without a zero ahead: alike where they are worth the same. -/
theorem worth_one {a b : List Nat} (ha : ∀ d ∈ a, d < 10) (hb : ∀ d ∈ b, d < 10) (za : a.head? ≠ some 0) (zb : b.head? ≠ some 0) (h : worth a = worth b) : a = b := by
  have low : ∀ {l : List Nat}, l.head? ≠ some 0 → l ≠ [] → 10 ^ (l.length - 1) ≤ worth l := by
    intro l hz hn
    match l, hn with
    | d :: l, _ =>
      rw [worth_cons]
      have : d ≠ 0 := by simpa using hz
      have := Nat.mul_le_mul_right (10 ^ l.length) (show 1 ≤ d by omega)
      simp only [List.length_cons, Nat.add_sub_cancel]
      omega
  have lt2 : ∀ {x y : List Nat}, x.head? ≠ some 0 → y.head? ≠ some 0 → (∀ d ∈ y, d < 10) → worth x = worth y → x.length ≤ y.length := by
    intro x y hx _ hyd hw
    refine Nat.le_of_not_lt fun hlt => ?_
    have hn : x ≠ [] := by rintro rfl; simp at hlt
    have h1 := low hx hn
    have h2 := worth_lt y hyd
    have h3 : 10 ^ y.length ≤ 10 ^ (x.length - 1) := Nat.pow_le_pow_right (by omega) (by omega)
    omega
  exact worth_inj a b (Nat.le_antisymm (lt2 za zb hb h) (lt2 zb za ha h.symm)) ha hb h
/-- Without the zeros ahead a row is worth the same. -/
theorem worth_trim : ∀ l : List Nat, worth (l.dropWhile (· == 0)) = worth l
  | [] => rfl
  | d :: l => by
    rw [List.dropWhile_cons]
    split
    · rename_i h
      have : d = 0 := by simpa using h
      rw [this, worth_cons, worth_trim l]; omega
    · rfl
end Go.Proofs.YtcmfkheohhfpiaaGreatDoor

namespace Go.Proofs.YtcmfkheohhfpiaaGreatDoor
theorem kn_start {u v : Nat} (hu : u < 16000000000000000000) (hv : v < 4294967296) :
    u / 3725290298 * 3725290298 + u % 3725290298 = u ∧ (u * 4294967296 + v) / 16000000000000000000 ≤ u / 3725290298 ∧ u / 3725290298 ≤ 4294967296 ∧ u % 3725290298 < 4294967296 := by omega
theorem kn_more {u v q r : Nat} (hu : u < 16000000000000000000) (hv : v < 4294967296) (e : q * 3725290298 + r = u) (hQ : (u * 4294967296 + v) / 16000000000000000000 ≤ q)
    (h : 4294967296 ≤ q ∨ 4294967296 * r + v < q * 1983905792) : (u * 4294967296 + v) / 16000000000000000000 + 1 ≤ q := by omega
theorem kn_stop {u v q r : Nat} (e : q * 3725290298 + r = u) (hQ : (u * 4294967296 + v) / 16000000000000000000 ≤ q)
    (h : q * 1983905792 ≤ 4294967296 * r + v) : (u * 4294967296 + v) / 16000000000000000000 = q := by omega
theorem kn_break {u v q r : Nat} (e : q * 3725290298 + r = u) (hQ : (u * 4294967296 + v) / 16000000000000000000 ≤ q) (hq : q ≤ 4294967296) (hr : 4294967296 ≤ r) :
    (u * 4294967296 + v) / 16000000000000000000 = q := by
  have h1 : q * 1983905792 ≤ 4294967296 * r := by omega
  exact kn_stop e hQ (by omega)
theorem kn_two {n x b : Nat} (e : n * 16 = x * 4294967296 + b) :
    n / 1000000000000000000 = x / 16000000000000000000 * 4294967296 + (x % 16000000000000000000 * 4294967296 + b) / 16000000000000000000 ∧
    n % 1000000000000000000 = (x % 16000000000000000000 * 4294967296 + b) % 16000000000000000000 / 16 := by
  have h1 := Nat.div_add_mod x 16000000000000000000
  have h2 := Nat.div_add_mod (x % 16000000000000000000 * 4294967296 + b) 16000000000000000000
  have h3 : (x % 16000000000000000000 * 4294967296 + b) % 16000000000000000000 < 16000000000000000000 := by omega
  revert h1 h2 h3
  generalize x / 16000000000000000000 = q1
  generalize x % 16000000000000000000 = r1
  generalize (r1 * 4294967296 + b) / 16000000000000000000 = q0
  generalize (r1 * 4294967296 + b) % 16000000000000000000 = r0
  intro h1 h2 h3
  have h4 : x * 4294967296 = 16000000000000000000 * q1 * 4294967296 + r1 * 4294967296 := by rw [← h1, Nat.add_mul]
  have h5 : (n : Int) * 16 = q1 * 68719476736000000000000000000 + q0 * 16000000000000000000 + r0 := by omega
  clear h1 h2 h4 e
  omega
/-- The two digits are the quotient, what is left is the rest. -/
theorem kn_all {hi lo n x u a b : Nat} (h : hi < 1000000000000000000) (hl : lo < 18446744073709551616) (hu : u = hi * 16 + lo / 1152921504606846976)
    (ha : a = lo * 16 % 18446744073709551616 / 4294967296) (hb : b = lo * 16 % 18446744073709551616 % 4294967296)
    (hn : n = hi * 18446744073709551616 + lo) (hx : x = u * 4294967296 + a) :
    u < 16000000000000000000 ∧ a < 4294967296 ∧ b < 4294967296 ∧
    n / 1000000000000000000 = x / 16000000000000000000 * 4294967296 + (x % 16000000000000000000 * 4294967296 + b) / 16000000000000000000 ∧
    n % 1000000000000000000 = (x % 16000000000000000000 * 4294967296 + b) % 16000000000000000000 / 16 :=
  ⟨by omega, by omega, by omega, kn_two (by omega)⟩
end Go.Proofs.YtcmfkheohhfpiaaGreatDoor

namespace Go.Proofs.YtcmfkheohhfpiaaGreatDoor
open Go.RowKit
theorem u64_or16 {hi lo : Nat} (h : hi < 1000000000000000000) (hl : lo < 18446744073709551616) :
    bits .or .u64 ((hi : Int) * 16) ((lo : Int) / 1152921504606846976) = ((hi * 16 + lo / 1152921504606846976 : Nat) : Int) := by
  have e1 : (hi : Int) * 16 = ((hi * 16 : Nat) : Int) := by omega
  have e2 : (lo : Int) / 1152921504606846976 = ((lo / 1152921504606846976 : Nat) : Int) := by omega
  have hm : lo / 1152921504606846976 < 2 ^ 4 := by omega
  rw [e1, e2]
  generalize lo / 1152921504606846976 = m at *
  show IntKind.u64.wrap ((BitVec.ofInt 64 ((hi * 16 : Nat) : Int) ||| BitVec.ofInt 64 (m : Int)).toNat : Int) = _
  rw [BitVec.toNat_or, ofInt_u64 _ (by omega), ofInt_u64 _ (by omega), show hi * 16 = 2 ^ 4 * hi by omega, ← Nat.two_pow_add_eq_or_of_lt hm hi]
  exact IntWalk.u64_in _ (by omega)
theorem u64_low32 {x : Nat} (h : x < 18446744073709551616) : bits .and .u64 (x : Int) 4294967295 = ((x % 4294967296 : Nat) : Int) := by
  show IntKind.u64.wrap ((BitVec.ofInt 64 (x : Int) &&& BitVec.ofInt 64 ((4294967295 : Nat) : Int)).toNat : Int) = _
  rw [BitVec.toNat_and, ofInt_u64 _ (by omega), ofInt_u64 _ (by omega), show (4294967295 : Nat) = 2 ^ 32 - 1 by rfl, Nat.and_two_pow_sub_one_eq_mod]
  exact IntWalk.u64_in _ (by omega)
/-- A digit that is tried: what it leaves, and that it is not too small. -/
structure KnI (u a p s : Nat) : Prop where
  e : p * 3725290298 + s = u
  q : (u * 4294967296 + a) / 16000000000000000000 ≤ p
theorem KnI.start {u a : Nat} (hu : u < 16000000000000000000) (ha : a < 4294967296) : KnI u a (u / 3725290298) (u % 3725290298) :=
  ⟨(kn_start hu ha).1, (kn_start hu ha).2.1⟩
theorem KnI.more {u a p s k S : Nat} (h : KnI u a p s) (hu : u < 16000000000000000000) (ha : a < 4294967296) (c : 4294967296 ≤ p ∨ 4294967296 * s + a < p * 1983905792)
    (hk : p = k + 1) (hS : S = s + 3725290298) : KnI u a k S := by
  have h1 := kn_more hu ha h.e h.q c
  have h2 := h.e
  have h3 : p * 3725290298 = k * 3725290298 + 3725290298 := by rw [hk, Nat.succ_mul]
  rw [hk] at h1
  refine ⟨?_, Nat.le_of_succ_le_succ h1⟩
  rw [hS, ← h2, h3, Nat.add_right_comm, Nat.add_assoc]
theorem KnI.stop {u a p s : Nat} (h : KnI u a p s) (c : p * 1983905792 ≤ 4294967296 * s + a) : (u * 4294967296 + a) / 16000000000000000000 = p := kn_stop h.e h.q c
theorem KnI.leave {u a p s : Nat} (h : KnI u a p s) (hp : p ≤ 4294967296) (c : 4294967296 ≤ s) : (u * 4294967296 + a) / 16000000000000000000 = p := kn_break h.e h.q hp c
theorem kn_small {u a k : Nat} (hu : u < 16000000000000000000) (ha : a < 4294967296) (h : (u * 4294967296 + a) / 16000000000000000000 = k) : (k : Int) < 4294967296 := by
  have : u * 4294967296 + a < 68719476736000000000000000000 := by omega
  omega
theorem kn_leftA {x u a k r : Int} (h : x = k * 16000000000000000000 + r) (hx : x = u * 4294967296 + a) (h0 : 0 ≤ r) (h1 : r < 16000000000000000000) :
    (((u * 4294967296) % 18446744073709551616 + a) % 18446744073709551616 - (k * 16000000000000000000) % 18446744073709551616) % 18446744073709551616 = r := by
  omega
theorem kn_left {u a k : Nat} (h : (u * 4294967296 + a) / 16000000000000000000 = k) :
    IntKind.u64.wrap (IntKind.u64.wrap (IntKind.u64.wrap ((u : Int) * 4294967296) + (a : Int)) - IntKind.u64.wrap ((k : Int) * 16000000000000000000)) = (((u * 4294967296 + a) % 16000000000000000000 : Nat) : Int) := by
  have W : ∀ n, IntKind.u64.wrap n = n % 18446744073709551616 := fun n => rfl
  rw [W, W, W, W]
  generalize hx : u * 4294967296 + a = x at h ⊢
  have h1 : (x : Int) = (k : Int) * 16000000000000000000 + ((x % 16000000000000000000 : Nat) : Int) := by omega
  have h2 : (x : Int) = (u : Int) * 4294967296 + (a : Int) := by omega
  have h3 : x % 16000000000000000000 < 16000000000000000000 := by omega
  exact kn_leftA h1 h2 (by omega) (by omega)
theorem kn_end {n q r x u2 b k1 k2 t2 : Nat} (h : n / 1000000000000000000 = x / 16000000000000000000 * 4294967296 + (x % 16000000000000000000 * 4294967296 + b) / 16000000000000000000 ∧
    n % 1000000000000000000 = (x % 16000000000000000000 * 4294967296 + b) % 16000000000000000000 / 16) (hq : q = n / 1000000000000000000) (hr : r = n % 1000000000000000000)
    (h1 : x / 16000000000000000000 = k1) (h2 : (u2 * 4294967296 + b) / 16000000000000000000 = k2) (hu : u2 = x % 16000000000000000000) (ht : t2 = (u2 * 4294967296 + b) % 16000000000000000000) :
    (k1 : Int) * 4294967296 + (k2 : Int) = (q : Int) ∧ (t2 : Int) / 16 = (r : Int) := by
  rw [← hu, h1, h2, ← ht] at h
  omega
/-- What Div64 hands back at 10 ^ 18. -/
structure KnIs (hi lo q r : Nat) : Prop where
  q : q = (hi * 18446744073709551616 + lo) / 1000000000000000000
  r : r = (hi * 18446744073709551616 + lo) % 1000000000000000000
set_option maxRecDepth 100000 in
set_option maxHeartbeats 1000000 in
theorem div64_any (hi lo q r : Nat) (w : World) (h : hi < 1000000000000000000) (hl : lo < 18446744073709551616) (hk : KnIs hi lo q r) :
    Calls Tryz.prog 141 #[.int .u64 hi, .int .u64 lo, .int .u64 1000000000000000000] w fun e w' =>
      e = .returned (.tuple #[.int .u64 q, .int .u64 r]) ∧ Below w.heap.size w w' := by
  have hz := Tryz.bits_LeadingZeros64 1000000000000000000 w (by omega) (by omega)
  rw [show (Lib.bitLen (1000000000000000000 : Int).toNat : Int) = 60 by decide, show (64 : Int) - 60 = 4 from rfl] at hz
  go_enter Tryz.func141, Tryz.ntmps141
  by_cases h0 : hi = 0
  · subst h0
    clear hz h
    have f1 : (lo : Int) / 1000000000000000000 = (q : Int) := by rw [hk.q]; omega
    have f2 : (lo : Int) % 1000000000000000000 = (r : Int) := by rw [hk.r]; omega
    go_upto_region 6 with (fail)
    go_region
    go_wp2_with fail
    go_ret2
    refine ⟨?_, (Below.refl w.heap.size w).drew⟩
    show Ending.returned (.tuple #[.int .u64 (q : Int), .int .u64 ((lo : Int) % 1000000000000000000)]) = _
    rw [f2]
  · have h1 : ¬ (1000000000000000000 : Int) ≤ (hi : Int) := by omega
    have h2 : ¬ (hi : Int) = 0 := by omega
    obtain ⟨u, hu, hO⟩ : ∃ u : Nat, u = hi * 16 + lo / 1152921504606846976 ∧ bits .or .u64 ((hi : Int) * 16) ((lo : Int) / 1152921504606846976) = (u : Int) := ⟨_, rfl, u64_or16 h hl⟩
    obtain ⟨t, ht, hW⟩ : ∃ t : Nat, t = lo * 16 % 18446744073709551616 ∧ IntKind.u64.wrap ((lo : Int) * 16) = (t : Int) := ⟨_, rfl, by
      show ((lo : Int) * 16) % 18446744073709551616 = _
      omega⟩
    obtain ⟨a, ha, hD⟩ : ∃ a : Nat, a = t / 4294967296 ∧ (t : Int) / 4294967296 = (a : Int) := ⟨_, rfl, by omega⟩
    obtain ⟨b, hb, hN⟩ : ∃ b : Nat, b = t % 4294967296 ∧ bits .and .u64 (t : Int) 4294967295 = (b : Int) := ⟨_, rfl, u64_low32 (by omega)⟩
    have hA : bits .and .u64 16000000000000000000 4294967295 = 1983905792 := by kernel_rfl
    have HK := Lib.hid (kn_all h hl hu (ha.trans (by rw [ht])) (hb.trans (by rw [ht])) rfl rfl)
    have hb32 : b < 4294967296 := by omega
    have ha32 : a < 4294967296 := by omega
    have hu64 : u < 16000000000000000000 := by omega
    clear h h0 ha hb ht hu
    go_upto_region 7 with (fail)
    go_wp2_with fail
    refine hz.mono ?_
    rintro e w' ⟨rfl, rfl⟩
    dsimp only
    obtain ⟨p, hp, hP⟩ : ∃ p : Nat, p = u / 3725290298 ∧ (u : Int) / 3725290298 = (p : Int) := ⟨_, rfl, by omega⟩
    have hs : (u : Int) - (p : Int) * 3725290298 = ((u % 3725290298 : Nat) : Int) := by omega
    have hs0 : u % 3725290298 < 4294967296 := by omega
    have hpB : p ≤ 4294967296 := by omega
    have HI : Hid (KnI u a p (u % 3725290298)) := Lib.hid (by rw [hp]; exact KnI.start hu64 ha32)
    generalize u % 3725290298 = s at *
    clear hp
    go_wp2_with fail
    go_loop [15, 16] (fun v15 v16 => ∃ p s : Nat, v15 = .int .u64 p ∧ v16 = .int .u64 s ∧ p ≤ 4294967296 ∧ s < 4294967296 ∧ Hid (KnI u a p s)) (fun v15 _ => (intOf v15).toNat)
    case atStart => exact ⟨p, s, rfl, rfl, hpB, hs0, HI⟩
    case round =>
      clear HI hpB hs0 hs hP
      obtain ⟨p, s, rfl, rfl, hpB, hsB, HI⟩ := hrel
      by_cases c : 4294967296 ≤ p ∨ 4294967296 * s + a < p * 1983905792
      · have hp1 := kn_more hu64 ha32 HI.out.e HI.out.q c
        obtain ⟨k, hk, e1⟩ : ∃ k : Nat, p = k + 1 ∧ (p : Int) - 1 = (k : Int) := ⟨p - 1, by omega, by omega⟩
        obtain ⟨S, hS, e2⟩ : ∃ S : Nat, S = s + 3725290298 ∧ (s : Int) + 3725290298 = (S : Int) := ⟨_, rfl, by omega⟩
        have HJ := HI.out.more hu64 ha32 c hk hS
        have hkB : k ≤ 4294967296 := by omega
        have HL := Lib.hid (HJ.leave (p := k) hkB)
        replace HJ := Lib.hid HJ
        have hk2 : (k : Int) < (p : Int) := by omega
        have c1 : (4294967296 : Int) ≤ (p : Int) ∨ 4294967296 * (s : Int) + (a : Int) < (p : Int) * 1983905792 := by omega
        clear HI c hk hS hp1
        by_cases hb : (4294967296 : Int) ≤ (p : Int)
        · clear c1
          by_cases hr : (4294967296 : Int) ≤ (S : Int)
          · have HQ := Lib.hid (HL.out (by omega))
            clear HL HJ
            have hU := kn_left HQ.out
            have hkl : (k : Int) < 4294967296 := kn_small hu64 ha32 HQ.out
            obtain ⟨u2, hu2, hU2⟩ : ∃ u2 : Nat, u2 = (u * 4294967296 + a) % 16000000000000000000 ∧ u2 < 16000000000000000000 := ⟨_, rfl, Nat.mod_lt _ (by decide)⟩
            rw [← hu2] at hU
            replace hu2 := Lib.hid hu2
            obtain ⟨p2, hp2, hP2⟩ : ∃ p2 : Nat, p2 = u2 / 3725290298 ∧ (u2 : Int) / 3725290298 = (p2 : Int) := ⟨_, rfl, by omega⟩
            have hs2 : (u2 : Int) - (p2 : Int) * 3725290298 = ((u2 % 3725290298 : Nat) : Int) := by omega
            have hs3 : u2 % 3725290298 < 4294967296 := by omega
            have hpB2 : p2 ≤ 4294967296 := by omega
            have HI2 : Hid (KnI u2 b p2 (u2 % 3725290298)) := Lib.hid (by rw [hp2]; exact KnI.start hU2 hb32)
            generalize u2 % 3725290298 = s2 at *
            clear hp2
            go_wp2_with fail
            clear hs2 hP2 hO hW hD hN hA hU
            obtain ⟨K, rfl⟩ : ∃ K, K = k := ⟨_, rfl⟩
            go_loop [18, 16] (fun v18 v16 => ∃ p s : Nat, v18 = .int .u64 p ∧ v16 = .int .u64 s ∧ p ≤ 4294967296 ∧ s < 4294967296 ∧ Hid (KnI u2 b p s)) (fun v18 _ => (intOf v18).toNat)
            case atStart => exact ⟨p2, s2, rfl, rfl, hpB2, hs3, HI2⟩
            case round =>
              clear HI2 hpB2 hs3
              obtain ⟨p, s, rfl, rfl, hpB, hsB, HI⟩ := hrel
              by_cases c : 4294967296 ≤ p ∨ 4294967296 * s + b < p * 1983905792
              · have hp1 := kn_more hU2 hb32 HI.out.e HI.out.q c
                obtain ⟨k, hk, e1⟩ : ∃ k : Nat, p = k + 1 ∧ (p : Int) - 1 = (k : Int) := ⟨p - 1, by omega, by omega⟩
                obtain ⟨S, hS, e2⟩ : ∃ S : Nat, S = s + 3725290298 ∧ (s : Int) + 3725290298 = (S : Int) := ⟨_, rfl, by omega⟩
                have HJ := HI.out.more hU2 hb32 c hk hS
                have hkB : k ≤ 4294967296 := by omega
                have HL := Lib.hid (HJ.leave (p := k) hkB)
                replace HJ := Lib.hid HJ
                have hk2 : (k : Int) < (p : Int) := by omega
                have c1 : (4294967296 : Int) ≤ (p : Int) ∨ 4294967296 * (s : Int) + (b : Int) < (p : Int) * 1983905792 := by omega
                clear HI c hk hS hp1
                by_cases hb : (4294967296 : Int) ≤ (p : Int)
                · clear c1
                  by_cases hr : (4294967296 : Int) ≤ (S : Int)
                  · have HQ2 := Lib.hid (HL.out (by omega))
                    clear HL HJ
                    have hV := kn_left HQ2.out
                    have hpl : (k : Int) < 4294967296 := kn_small hU2 hb32 HQ2.out
                    obtain ⟨t2, ht2, hT2⟩ : ∃ t2 : Nat, t2 = (u2 * 4294967296 + b) % 16000000000000000000 ∧ t2 < 16000000000000000000 := ⟨_, rfl, Nat.mod_lt _ (by decide)⟩
                    rw [← ht2] at hV
                    obtain ⟨f1, f2⟩ := kn_end HK.out.2.2.2 hk.q hk.r HQ.out HQ2.out hu2.out ht2
                    clear ht2
                    go_wp2_with fail
                    go_ret2
                    exact ⟨rfl, Below.refl _ _⟩
                  · have hr2 : S < 4294967296 := by omega
                    clear HL
                    go_wp2_with fail
                    go_round
                    case rel => exact ⟨k, S, rfl, rfl, hkB, hr2, HJ⟩
                    case measure => simp [intOf]; omega
                · have c2 : 4294967296 * (s : Int) + (b : Int) < (p : Int) * 1983905792 := by omega
                  clear c1
                  by_cases hr : (4294967296 : Int) ≤ (S : Int)
                  · have HQ2 := Lib.hid (HL.out (by omega))
                    clear HL HJ
                    have hV := kn_left HQ2.out
                    have hpl : (k : Int) < 4294967296 := kn_small hU2 hb32 HQ2.out
                    obtain ⟨t2, ht2, hT2⟩ : ∃ t2 : Nat, t2 = (u2 * 4294967296 + b) % 16000000000000000000 ∧ t2 < 16000000000000000000 := ⟨_, rfl, Nat.mod_lt _ (by decide)⟩
                    rw [← ht2] at hV
                    obtain ⟨f1, f2⟩ := kn_end HK.out.2.2.2 hk.q hk.r HQ.out HQ2.out hu2.out ht2
                    clear ht2
                    go_wp2_with fail
                    go_ret2
                    exact ⟨rfl, Below.refl _ _⟩
                  · have hr2 : S < 4294967296 := by omega
                    clear HL
                    go_wp2_with fail
                    go_round
                    case rel => exact ⟨k, S, rfl, rfl, hkB, hr2, HJ⟩
                    case measure => simp [intOf]; omega
              · have HQ2 := Lib.hid (HI.out.stop (by omega))
                have c1 : ¬ (4294967296 : Int) ≤ (p : Int) := by omega
                have c2 : ¬ 4294967296 * (s : Int) + (b : Int) < (p : Int) * 1983905792 := by omega
                clear HI c
                obtain ⟨k, rfl⟩ : ∃ k, k = p := ⟨_, rfl⟩
                have hV := kn_left HQ2.out
                have hpl : (k : Int) < 4294967296 := kn_small hU2 hb32 HQ2.out
                obtain ⟨t2, ht2, hT2⟩ : ∃ t2 : Nat, t2 = (u2 * 4294967296 + b) % 16000000000000000000 ∧ t2 < 16000000000000000000 := ⟨_, rfl, Nat.mod_lt _ (by decide)⟩
                rw [← ht2] at hV
                obtain ⟨f1, f2⟩ := kn_end HK.out.2.2.2 hk.q hk.r HQ.out HQ2.out hu2.out ht2
                clear ht2
                go_wp2_with fail
                go_ret2
                exact ⟨rfl, Below.refl _ _⟩
          · have hr2 : S < 4294967296 := by omega
            clear HL
            go_wp2_with fail
            go_round
            case rel => exact ⟨k, S, rfl, rfl, hkB, hr2, HJ⟩
            case measure => simp [intOf]; omega
        · have c2 : 4294967296 * (s : Int) + (a : Int) < (p : Int) * 1983905792 := by omega
          clear c1
          by_cases hr : (4294967296 : Int) ≤ (S : Int)
          · have HQ := Lib.hid (HL.out (by omega))
            clear HL HJ
            have hU := kn_left HQ.out
            have hkl : (k : Int) < 4294967296 := kn_small hu64 ha32 HQ.out
            obtain ⟨u2, hu2, hU2⟩ : ∃ u2 : Nat, u2 = (u * 4294967296 + a) % 16000000000000000000 ∧ u2 < 16000000000000000000 := ⟨_, rfl, Nat.mod_lt _ (by decide)⟩
            rw [← hu2] at hU
            replace hu2 := Lib.hid hu2
            obtain ⟨p2, hp2, hP2⟩ : ∃ p2 : Nat, p2 = u2 / 3725290298 ∧ (u2 : Int) / 3725290298 = (p2 : Int) := ⟨_, rfl, by omega⟩
            have hs2 : (u2 : Int) - (p2 : Int) * 3725290298 = ((u2 % 3725290298 : Nat) : Int) := by omega
            have hs3 : u2 % 3725290298 < 4294967296 := by omega
            have hpB2 : p2 ≤ 4294967296 := by omega
            have HI2 : Hid (KnI u2 b p2 (u2 % 3725290298)) := Lib.hid (by rw [hp2]; exact KnI.start hU2 hb32)
            generalize u2 % 3725290298 = s2 at *
            clear hp2
            go_wp2_with fail
            clear hs2 hP2 hO hW hD hN hA hU
            obtain ⟨K, rfl⟩ : ∃ K, K = k := ⟨_, rfl⟩
            go_loop [18, 16] (fun v18 v16 => ∃ p s : Nat, v18 = .int .u64 p ∧ v16 = .int .u64 s ∧ p ≤ 4294967296 ∧ s < 4294967296 ∧ Hid (KnI u2 b p s)) (fun v18 _ => (intOf v18).toNat)
            case atStart => exact ⟨p2, s2, rfl, rfl, hpB2, hs3, HI2⟩
            case round =>
              clear HI2 hpB2 hs3
              obtain ⟨p, s, rfl, rfl, hpB, hsB, HI⟩ := hrel
              by_cases c : 4294967296 ≤ p ∨ 4294967296 * s + b < p * 1983905792
              · have hp1 := kn_more hU2 hb32 HI.out.e HI.out.q c
                obtain ⟨k, hk, e1⟩ : ∃ k : Nat, p = k + 1 ∧ (p : Int) - 1 = (k : Int) := ⟨p - 1, by omega, by omega⟩
                obtain ⟨S, hS, e2⟩ : ∃ S : Nat, S = s + 3725290298 ∧ (s : Int) + 3725290298 = (S : Int) := ⟨_, rfl, by omega⟩
                have HJ := HI.out.more hU2 hb32 c hk hS
                have hkB : k ≤ 4294967296 := by omega
                have HL := Lib.hid (HJ.leave (p := k) hkB)
                replace HJ := Lib.hid HJ
                have hk2 : (k : Int) < (p : Int) := by omega
                have c1 : (4294967296 : Int) ≤ (p : Int) ∨ 4294967296 * (s : Int) + (b : Int) < (p : Int) * 1983905792 := by omega
                clear HI c hk hS hp1
                by_cases hb : (4294967296 : Int) ≤ (p : Int)
                · clear c1
                  by_cases hr : (4294967296 : Int) ≤ (S : Int)
                  · have HQ2 := Lib.hid (HL.out (by omega))
                    clear HL HJ
                    have hV := kn_left HQ2.out
                    have hpl : (k : Int) < 4294967296 := kn_small hU2 hb32 HQ2.out
                    obtain ⟨t2, ht2, hT2⟩ : ∃ t2 : Nat, t2 = (u2 * 4294967296 + b) % 16000000000000000000 ∧ t2 < 16000000000000000000 := ⟨_, rfl, Nat.mod_lt _ (by decide)⟩
                    rw [← ht2] at hV
                    obtain ⟨f1, f2⟩ := kn_end HK.out.2.2.2 hk.q hk.r HQ.out HQ2.out hu2.out ht2
                    clear ht2
                    go_wp2_with fail
                    go_ret2
                    exact ⟨rfl, Below.refl _ _⟩
                  · have hr2 : S < 4294967296 := by omega
                    clear HL
                    go_wp2_with fail
                    go_round
                    case rel => exact ⟨k, S, rfl, rfl, hkB, hr2, HJ⟩
                    case measure => simp [intOf]; omega
                · have c2 : 4294967296 * (s : Int) + (b : Int) < (p : Int) * 1983905792 := by omega
                  clear c1
                  by_cases hr : (4294967296 : Int) ≤ (S : Int)
                  · have HQ2 := Lib.hid (HL.out (by omega))
                    clear HL HJ
                    have hV := kn_left HQ2.out
                    have hpl : (k : Int) < 4294967296 := kn_small hU2 hb32 HQ2.out
                    obtain ⟨t2, ht2, hT2⟩ : ∃ t2 : Nat, t2 = (u2 * 4294967296 + b) % 16000000000000000000 ∧ t2 < 16000000000000000000 := ⟨_, rfl, Nat.mod_lt _ (by decide)⟩
                    rw [← ht2] at hV
                    obtain ⟨f1, f2⟩ := kn_end HK.out.2.2.2 hk.q hk.r HQ.out HQ2.out hu2.out ht2
                    clear ht2
                    go_wp2_with fail
                    go_ret2
                    exact ⟨rfl, Below.refl _ _⟩
                  · have hr2 : S < 4294967296 := by omega
                    clear HL
                    go_wp2_with fail
                    go_round
                    case rel => exact ⟨k, S, rfl, rfl, hkB, hr2, HJ⟩
                    case measure => simp [intOf]; omega
              · have HQ2 := Lib.hid (HI.out.stop (by omega))
                have c1 : ¬ (4294967296 : Int) ≤ (p : Int) := by omega
                have c2 : ¬ 4294967296 * (s : Int) + (b : Int) < (p : Int) * 1983905792 := by omega
                clear HI c
                obtain ⟨k, rfl⟩ : ∃ k, k = p := ⟨_, rfl⟩
                have hV := kn_left HQ2.out
                have hpl : (k : Int) < 4294967296 := kn_small hU2 hb32 HQ2.out
                obtain ⟨t2, ht2, hT2⟩ : ∃ t2 : Nat, t2 = (u2 * 4294967296 + b) % 16000000000000000000 ∧ t2 < 16000000000000000000 := ⟨_, rfl, Nat.mod_lt _ (by decide)⟩
                rw [← ht2] at hV
                obtain ⟨f1, f2⟩ := kn_end HK.out.2.2.2 hk.q hk.r HQ.out HQ2.out hu2.out ht2
                clear ht2
                go_wp2_with fail
                go_ret2
                exact ⟨rfl, Below.refl _ _⟩
          · have hr2 : S < 4294967296 := by omega
            clear HL
            go_wp2_with fail
            go_round
            case rel => exact ⟨k, S, rfl, rfl, hkB, hr2, HJ⟩
            case measure => simp [intOf]; omega
      · have HQ := Lib.hid (HI.out.stop (by omega))
        have c1 : ¬ (4294967296 : Int) ≤ (p : Int) := by omega
        have c2 : ¬ 4294967296 * (s : Int) + (a : Int) < (p : Int) * 1983905792 := by omega
        clear HI c
        obtain ⟨k, rfl⟩ : ∃ k, k = p := ⟨_, rfl⟩
        have hU := kn_left HQ.out
        have hkl : (k : Int) < 4294967296 := kn_small hu64 ha32 HQ.out
        obtain ⟨u2, hu2, hU2⟩ : ∃ u2 : Nat, u2 = (u * 4294967296 + a) % 16000000000000000000 ∧ u2 < 16000000000000000000 := ⟨_, rfl, Nat.mod_lt _ (by decide)⟩
        rw [← hu2] at hU
        replace hu2 := Lib.hid hu2
        obtain ⟨p2, hp2, hP2⟩ : ∃ p2 : Nat, p2 = u2 / 3725290298 ∧ (u2 : Int) / 3725290298 = (p2 : Int) := ⟨_, rfl, by omega⟩
        have hs2 : (u2 : Int) - (p2 : Int) * 3725290298 = ((u2 % 3725290298 : Nat) : Int) := by omega
        have hs3 : u2 % 3725290298 < 4294967296 := by omega
        have hpB2 : p2 ≤ 4294967296 := by omega
        have HI2 : Hid (KnI u2 b p2 (u2 % 3725290298)) := Lib.hid (by rw [hp2]; exact KnI.start hU2 hb32)
        generalize u2 % 3725290298 = s2 at *
        clear hp2
        go_wp2_with fail
        clear hs2 hP2 hO hW hD hN hA hU
        obtain ⟨K, rfl⟩ : ∃ K, K = k := ⟨_, rfl⟩
        go_loop [18, 16] (fun v18 v16 => ∃ p s : Nat, v18 = .int .u64 p ∧ v16 = .int .u64 s ∧ p ≤ 4294967296 ∧ s < 4294967296 ∧ Hid (KnI u2 b p s)) (fun v18 _ => (intOf v18).toNat)
        case atStart => exact ⟨p2, s2, rfl, rfl, hpB2, hs3, HI2⟩
        case round =>
          clear HI2 hpB2 hs3
          obtain ⟨p, s, rfl, rfl, hpB, hsB, HI⟩ := hrel
          by_cases c : 4294967296 ≤ p ∨ 4294967296 * s + b < p * 1983905792
          · have hp1 := kn_more hU2 hb32 HI.out.e HI.out.q c
            obtain ⟨k, hk, e1⟩ : ∃ k : Nat, p = k + 1 ∧ (p : Int) - 1 = (k : Int) := ⟨p - 1, by omega, by omega⟩
            obtain ⟨S, hS, e2⟩ : ∃ S : Nat, S = s + 3725290298 ∧ (s : Int) + 3725290298 = (S : Int) := ⟨_, rfl, by omega⟩
            have HJ := HI.out.more hU2 hb32 c hk hS
            have hkB : k ≤ 4294967296 := by omega
            have HL := Lib.hid (HJ.leave (p := k) hkB)
            replace HJ := Lib.hid HJ
            have hk2 : (k : Int) < (p : Int) := by omega
            have c1 : (4294967296 : Int) ≤ (p : Int) ∨ 4294967296 * (s : Int) + (b : Int) < (p : Int) * 1983905792 := by omega
            clear HI c hk hS hp1
            by_cases hb : (4294967296 : Int) ≤ (p : Int)
            · clear c1
              by_cases hr : (4294967296 : Int) ≤ (S : Int)
              · have HQ2 := Lib.hid (HL.out (by omega))
                clear HL HJ
                have hV := kn_left HQ2.out
                have hpl : (k : Int) < 4294967296 := kn_small hU2 hb32 HQ2.out
                obtain ⟨t2, ht2, hT2⟩ : ∃ t2 : Nat, t2 = (u2 * 4294967296 + b) % 16000000000000000000 ∧ t2 < 16000000000000000000 := ⟨_, rfl, Nat.mod_lt _ (by decide)⟩
                rw [← ht2] at hV
                obtain ⟨f1, f2⟩ := kn_end HK.out.2.2.2 hk.q hk.r HQ.out HQ2.out hu2.out ht2
                clear ht2
                go_wp2_with fail
                go_ret2
                exact ⟨rfl, Below.refl _ _⟩
              · have hr2 : S < 4294967296 := by omega
                clear HL
                go_wp2_with fail
                go_round
                case rel => exact ⟨k, S, rfl, rfl, hkB, hr2, HJ⟩
                case measure => simp [intOf]; omega
            · have c2 : 4294967296 * (s : Int) + (b : Int) < (p : Int) * 1983905792 := by omega
              clear c1
              by_cases hr : (4294967296 : Int) ≤ (S : Int)
              · have HQ2 := Lib.hid (HL.out (by omega))
                clear HL HJ
                have hV := kn_left HQ2.out
                have hpl : (k : Int) < 4294967296 := kn_small hU2 hb32 HQ2.out
                obtain ⟨t2, ht2, hT2⟩ : ∃ t2 : Nat, t2 = (u2 * 4294967296 + b) % 16000000000000000000 ∧ t2 < 16000000000000000000 := ⟨_, rfl, Nat.mod_lt _ (by decide)⟩
                rw [← ht2] at hV
                obtain ⟨f1, f2⟩ := kn_end HK.out.2.2.2 hk.q hk.r HQ.out HQ2.out hu2.out ht2
                clear ht2
                go_wp2_with fail
                go_ret2
                exact ⟨rfl, Below.refl _ _⟩
              · have hr2 : S < 4294967296 := by omega
                clear HL
                go_wp2_with fail
                go_round
                case rel => exact ⟨k, S, rfl, rfl, hkB, hr2, HJ⟩
                case measure => simp [intOf]; omega
          · have HQ2 := Lib.hid (HI.out.stop (by omega))
            have c1 : ¬ (4294967296 : Int) ≤ (p : Int) := by omega
            have c2 : ¬ 4294967296 * (s : Int) + (b : Int) < (p : Int) * 1983905792 := by omega
            clear HI c
            obtain ⟨k, rfl⟩ : ∃ k, k = p := ⟨_, rfl⟩
            have hV := kn_left HQ2.out
            have hpl : (k : Int) < 4294967296 := kn_small hU2 hb32 HQ2.out
            obtain ⟨t2, ht2, hT2⟩ : ∃ t2 : Nat, t2 = (u2 * 4294967296 + b) % 16000000000000000000 ∧ t2 < 16000000000000000000 := ⟨_, rfl, Nat.mod_lt _ (by decide)⟩
            rw [← ht2] at hV
            obtain ⟨f1, f2⟩ := kn_end HK.out.2.2.2 hk.q hk.r HQ.out HQ2.out hu2.out ht2
            clear ht2
            go_wp2_with fail
            go_ret2
            exact ⟨rfl, Below.refl _ _⟩
end Go.Proofs.YtcmfkheohhfpiaaGreatDoor

namespace Go.Proofs.YtcmfkheohhfpiaaGreatDoor
open Go.RowKit
set_option maxHeartbeats 3200000 in
set_option maxRecDepth 100000 in
theorem ifmt10_all (v : Nat) (hv : v < 18446744073709551616) (w : World) (h : Lib.TabIs Tryz.prog w "internal/strconv.uint64pow10" .u64 Lib.pow10Tab) :
    Calls Tryz.prog 152 #[.int .u64 v, .int .i64 10] w fun e w' => e = .returned (.string ⟨(Lib.decDigits v).toArray⟩) ∧ Below w.heap.size w w' := by
  by_cases hs : v < 100
  · have h1 := Tryz.internal_strconv_small v hs w
    have hd : decide ((v : Int) < 100) = true := by simp; omega
    have s0 : IntKind.i64.wrap (v : Int) = (v : Int) := IntWalk.i64_in _ (by omega)
    clear hs hv
    go_enter Tryz.func152, Tryz.ntmps152
    go_wp2_with fail
    refine h1.mono ?_
    rintro e w1 ⟨rfl, rfl⟩
    go_wp2_with fail
    go_ret
    exact ⟨rfl, Below.refl _ _⟩
  · have hd : decide ((v : Int) < 100) = false := by simp; omega
    have hn20 : Lib.nDigits v ≤ 20 := by have := Lib.numDigits_eq v (by omega) hv; split at this <;> omega
    have hal : Tryz.prog.arrayLen 304 = 24 := by simp [Program.arrayLen, Tryz.underlying304]
    have hsl : ∀ W, (Instr.sliceAt 304 (.pointer (some ⟨w.heap.size, 0, none⟩)) none (some (.int .i64 (Lib.nDigits v : Nat))) none).run Tryz.prog W = .ok (.slice (some ⟨w.heap.size, 0, none⟩) (Lib.nDigits v) 24) W := fun W => by
      rw [run_sliceAt_array_h W 304 ⟨w.heap.size, 0, none⟩ (by simp [Program.arrayLen, Program.elem, Tryz.underlying304]) .i64 (Lib.nDigits v : Nat) (by omega) (by rw [hal]; omega)]
      go_simp
    have hH0 := Lib.holds_zero0 w 304 (Lib.nDigits v) (by omega)
    have hfmt := Tryz.internal_strconv_formatBase10 w.heap.size 0 24 v (Array.replicate (Lib.nDigits v) 0) (w.alloc (.cells Lib.zeros24 304)) hH0 (by rw [Array.size_replicate]; exact Lib.lt_pow_nDigits v) hv (by rw [Array.size_replicate]; omega)
    rw [Array.size_replicate] at hfmt
    have hnd := Tryz.internal_strconv_numDigits v (by omega) hv (w.alloc (.cells Lib.zeros24 304)) (Lib.tabIs_alloc h _)
    have HH0 := Lib.hid hH0
    clear hH0 hal hs hv
    go_enter Tryz.func152, Tryz.ntmps152
    go_wp2_with fail
    refine hnd.mono ?_
    rintro e w1 ⟨rfl, rfl⟩
    go_wp2_with fail
    refine hfmt.mono ?_
    rintro e w1 ⟨rfl, k, v', dk, rfl, hF⟩
    have hcv : (convert 96 9 (.slice (some ⟨w.heap.size, 0, none⟩) (Lib.nDigits v) 24)).run Tryz.prog ((Sort.putRow (fun (b : UInt8) => Value.int .u8 (b.toNat : Int)) (w.alloc (.cells Lib.zeros24 304)) w.heap.size 0 dk).drewN k) = .ok (.string ⟨(Lib.decDigits v).toArray⟩) ((Sort.putRow (fun (b : UInt8) => Value.int .u8 (b.toNat : Int)) (w.alloc (.cells Lib.zeros24 304)) w.heap.size 0 dk).drewN k) := by
      have h := run_convert_bytes_back (P := Tryz.prog) ((Sort.putRow (fun (b : UInt8) => Value.int .u8 (b.toNat : Int)) (w.alloc (.cells Lib.zeros24 304)) w.heap.size 0 dk).drewN k) 96 9 5 ⟨w.heap.size, 0, none⟩ 24 (Lib.decDigits v) Tryz.underlying96 Tryz.underlying5 Tryz.underlying9 (fun j hj => by
        rw [Lib.row_is_numeral hF j hj, Lib.add_plain, World.cell?_drewN]
        exact Sort.cell?_putRow (fun (b : UInt8) => Value.int .u8 (b.toNat : Int)) _ w.heap.size 0 _ dk HH0.out (by rw [hF.size, Array.size_replicate]) j (by rw [hF.size]; rw [Lib.decDigits_length] at hj; exact hj))
      rw [Lib.decDigits_length] at h
      exact h
    obtain ⟨os, eo⟩ := Lib.fin_at w (.cells Lib.zeros24 304) dk k 0
    have hbb : Below w.heap.size w ((Sort.putRow (fun (b : UInt8) => Value.int .u8 (b.toNat : Int)) (w.alloc (.cells Lib.zeros24 304)) w.heap.size 0 dk).drewN k) := by rw [eo]; exact Lib.below_grow w.heap.size w (Nat.le_refl _) k os
    have HBB := Lib.hid hbb
    generalize (Sort.putRow (fun (b : UInt8) => Value.int .u8 (b.toNat : Int)) (w.alloc (.cells Lib.zeros24 304)) w.heap.size 0 dk).drewN k = W2 at hcv HBB ⊢
    clear eo hfmt hnd hbb hF
    go_wp2_with fail
    go_ret
    exact ⟨rfl, HBB.out⟩
set_option maxRecDepth 100000 in
theorem fmt10_all (v : Nat) (hv : v < 18446744073709551616) (w : World) (h : Lib.TabIs Tryz.prog w "internal/strconv.uint64pow10" .u64 Lib.pow10Tab) :
    Calls Tryz.prog 106 #[.int .u64 v, .int .i64 10] w fun e w' => e = .returned (.string ⟨(Lib.decDigits v).toArray⟩) ∧ Below w.heap.size w w' := by
  have h1 := ifmt10_all v hv w h
  clear hv
  go_enter Tryz.func106, Tryz.ntmps106
  go_wp2_with fail
  refine h1.mono ?_
  rintro e w1 ⟨rfl, hb1⟩
  have HB := Lib.hid hb1
  clear h1 hb1
  go_wp2_with fail
  go_ret
  exact ⟨rfl, HB.out⟩
/-- What the decimal digits of a number are worth. -/
theorem worth_dec : ∀ v : Nat, worth ((Lib.decDigits v).map (fun b => b.toNat - 48)) = v
  | v => by
    rw [Lib.decDigits]
    split
    · rename_i hv
      simp [worth]
      omega
    · rename_i hv
      rw [List.map_append, worth_append, worth_dec (v / 10)]
      simp [worth]
      omega
termination_by v => v
decreasing_by omega
end Go.Proofs.YtcmfkheohhfpiaaGreatDoor

namespace Go.Proofs.YtcmfkheohhfpiaaGreatDoor

/-- What a row of bytes is worth as digits. -/
def worthB (l : List UInt8) : Nat := worth (l.map (fun b => b.toNat - 48))
def digB (l : List UInt8) : Prop := ∀ b ∈ l, 48 ≤ b.toNat ∧ b.toNat ≤ 57
theorem digB_append {a b : List UInt8} (ha : digB a) (hb : digB b) : digB (a ++ b) := fun x hx => (List.mem_append.1 hx).elim (ha x) (hb x)
theorem worthB_append (a b : List UInt8) : worthB (a ++ b) = worthB a * 10 ^ b.length + worthB b := by
  unfold worthB
  rw [List.map_append, worth_append, List.length_map]
theorem digB_dec : ∀ v : Nat, digB (Lib.decDigits v)
  | v => by
    rw [Lib.decDigits]
    split
    · intro x hx
      rw [List.mem_singleton.1 hx]
      simp
      omega
    · refine digB_append (digB_dec (v / 10)) fun x hx => ?_
      rw [List.mem_singleton.1 hx]
      simp
      omega
termination_by v => v
decreasing_by omega
theorem digB_zeros (k : Nat) : digB (List.replicate k 48) := fun x hx => by
  rw [(List.mem_replicate.1 hx).2]
  decide
theorem worthB_zeros (k : Nat) : worthB (List.replicate k 48) = 0 := by
  unfold worthB
  rw [List.map_replicate]
  exact worth_zeros k

/-- The three words of a number of 192 bits. -/
def wdOf (n i : Nat) : Nat := n / 18446744073709551616 ^ i % 18446744073709551616
/-- A number of three words, divided from its highest word on. -/
theorem div_words {a b c d : Nat} (D : Nat) (hD : 0 < D) (hd : d = (a * 18446744073709551616 + b) * 18446744073709551616 + c) :
    d / D = (a / D * 18446744073709551616 + (a % D * 18446744073709551616 + b) / D) * 18446744073709551616 + ((a % D * 18446744073709551616 + b) % D * 18446744073709551616 + c) / D ∧
    d % D = ((a % D * 18446744073709551616 + b) % D * 18446744073709551616 + c) % D := by
  generalize 18446744073709551616 = B at *
  have two : ∀ x y : Nat, (x * B + y) / D = x / D * B + (x % D * B + y) / D ∧ (x * B + y) % D = (x % D * B + y) % D := fun x y => by
    have e : x * B + y = (x % D * B + y) + D * (x / D * B) := by
      have := Nat.div_add_mod x D
      have h2 : x * B = (D * (x / D)) * B + x % D * B := by rw [← Nat.add_mul, this]
      rw [h2, Nat.mul_assoc]
      omega
    exact ⟨by rw [e, Nat.add_mul_div_left _ _ hD, Nat.add_comm], by rw [e, Nat.add_mul_mod_self_left]⟩
  have h1 := two a b
  have h2 := two (a * B + b) c
  rw [hd, h2.1, h2.2, h1.1, h1.2]
  exact ⟨rfl, rfl⟩

/-! The digits of a number, eighteen at a time. -/
/-- What is still to write, and what is written: k pieces of eighteen digits. -/
structure TxI (tot n : Nat) (s : List UInt8) (k : Nat) : Prop where
  dig : digB s
  len : s.length = 18 * k
  e : n * 10 ^ (18 * k) + worthB s = tot
theorem TxI.start (n : Nat) : TxI n n [] 0 := ⟨(fun _ h => by cases h), rfl, by simp [worthB, worth]⟩
theorem dec_len : ∀ (k v : Nat), v < 10 ^ (k + 1) → (Lib.decDigits v).length ≤ k + 1
  | 0, v, h => by rw [Lib.decDigits, dif_pos (by simpa using h)]; simp
  | k + 1, v, h => by
    rw [Lib.decDigits]
    split
    · simp
    · rw [List.length_append, List.length_singleton]
      have := dec_len k (v / 10) (by rw [Nat.div_lt_iff_lt_mul (by omega)]; rwa [← Nat.pow_succ])
      omega
theorem worthB_dec (v : Nat) : worthB (Lib.decDigits v) = v := worth_dec v
theorem TxI.step {tot n k : Nat} {s w : List UInt8} (h : TxI tot n s k) (hw : w = Lib.decDigits (n % 1000000000000000000)) :
    TxI tot (n / 1000000000000000000) (List.replicate (18 - w.length) 48 ++ w ++ s) (k + 1) := by
  have hl : w.length ≤ 18 := by rw [hw]; exact dec_len 17 _ (Nat.lt_of_lt_of_le (Nat.mod_lt n (by decide)) (by decide))
  refine ⟨digB_append (digB_append (digB_zeros _) (by rw [hw]; exact digB_dec _)) h.dig, ?_, ?_⟩
  · rw [List.length_append, List.length_append, List.length_replicate, h.len]
    omega
  · have he := h.e
    rw [worthB_append, worthB_append, worthB_zeros, Nat.zero_mul, Nat.zero_add, h.len, hw, worthB_dec, show 18 * (k + 1) = 18 + 18 * k by omega, Nat.pow_add, ← Nat.mul_assoc, ← Nat.add_assoc, ← Nat.add_mul]
    rw [show n / 1000000000000000000 * 10 ^ 18 + n % 1000000000000000000 = n by have := Nat.div_add_mod n 1000000000000000000; rw [show (10 : Nat) ^ 18 = 1000000000000000000 by decide, Nat.mul_comm]; exact this]
    exact he
theorem TxI.last {tot n k : Nat} {s w : List UInt8} (h : TxI tot n s k) (hw : w = Lib.decDigits (n % 1000000000000000000)) (hz : n / 1000000000000000000 = 0) :
    digB (w ++ s) ∧ worthB (w ++ s) = tot := by
  refine ⟨digB_append (by rw [hw]; exact digB_dec _) h.dig, ?_⟩
  have he := h.e
  have hm : n % 1000000000000000000 = n := Nat.mod_eq_of_lt (by omega)
  rw [worthB_append, h.len, hw, worthB_dec, hm]
  exact he

/-! The sum of two rows of digits, from their ends on. -/
def dAt (l : List Nat) (i : Nat) : Nat := if i < l.length then l.getD (l.length - 1 - i) 0 else 0
def lastW (l : List Nat) (i : Nat) : Nat := worth (l.drop (l.length - i))
theorem lastW_zero (l : List Nat) : lastW l 0 = 0 := by simp [lastW, worth]
theorem lastW_succ (l : List Nat) (i : Nat) : lastW l (i + 1) = dAt l i * 10 ^ i + lastW l i := by
  unfold lastW dAt
  by_cases h : i < l.length
  · rw [if_pos h, List.getD_eq_getElem?_getD, List.getElem?_eq_getElem (by omega), Option.getD_some]
    have e : l.drop (l.length - (i + 1)) = l[l.length - 1 - i] :: l.drop (l.length - i) := by
      rw [show l.length - (i + 1) = l.length - 1 - i by omega, List.drop_eq_getElem_cons (by omega), show l.length - 1 - i + 1 = l.length - i by omega]
    rw [e, worth_cons, List.length_drop, show l.length - (l.length - i) = i by omega]
  · rw [if_neg h, show l.length - (i + 1) = 0 by omega, show l.length - i = 0 by omega]
    omega
theorem lastW_all (l : List Nat) {i : Nat} (h : l.length ≤ i) : lastW l i = worth l := by
  unfold lastW
  rw [show l.length - i = 0 by omega, List.drop_zero]
/-- Where the sum stands behind i digits: those that are laid (the lowest first), and what is carried. -/
structure SumI (x y out : List Nat) (c : Nat) : Prop where
  le : c ≤ 1
  d : ∀ z ∈ out, z < 10
  e : worth out.reverse + c * 10 ^ out.length = lastW x out.length + lastW y out.length
theorem SumI.start (x y : List Nat) : SumI x y [] 0 := ⟨by omega, (fun _ h => by cases h), by simp [worth, lastW_zero]⟩
theorem SumI.step {x y out : List Nat} {c n : Nat} (h : SumI x y out c) (hx : ∀ z ∈ x, z < 10) (hy : ∀ z ∈ y, z < 10) (hn : n = c + dAt x out.length + dAt y out.length) :
    SumI x y (out ++ [n % 10]) (n / 10) := by
  have lt : ∀ l : List Nat, (∀ z ∈ l, z < 10) → dAt l out.length < 10 := fun l hl => by
    unfold dAt
    split
    · rw [List.getD_eq_getElem?_getD, List.getElem?_eq_getElem (by omega), Option.getD_some]
      exact hl _ (List.getElem_mem _)
    · omega
  have h1 := lt x hx
  have h2 := lt y hy
  have h3 := h.le
  refine ⟨by omega, fun z hz => ?_, ?_⟩
  · rcases List.mem_append.1 hz with hz | hz
    · exact h.d z hz
    · rw [List.mem_singleton.1 hz]; omega
  · have he := h.e
    rw [List.reverse_append, List.reverse_singleton, List.singleton_append, worth_cons, List.length_reverse, List.length_append, List.length_singleton, lastW_succ, lastW_succ, Nat.pow_succ]
    generalize worth out.reverse = W at *
    generalize lastW x out.length = X at *
    generalize lastW y out.length = Y at *
    generalize 10 ^ out.length = T at *
    have e1 : n / 10 * (T * 10) = n / 10 * 10 * T := by rw [Nat.mul_assoc, Nat.mul_comm 10 T]
    have e2 : n % 10 * T + n / 10 * 10 * T = n * T := by rw [← Nat.add_mul, Nat.add_comm, Nat.mul_comm (n / 10) 10, Nat.div_add_mod]
    have e3 : n * T = c * T + dAt x out.length * T + dAt y out.length * T := by rw [hn, Nat.add_mul, Nat.add_mul]
    omega
/-- At its end the digits that are laid are worth the sum. -/
theorem SumI.last {x y out : List Nat} {c : Nat} (h : SumI x y out c) (hx : ∀ z ∈ x, z < 10) (hy : ∀ z ∈ y, z < 10) (hl : out.length = max x.length y.length + 1) :
    worth out.reverse = worth x + worth y := by
  have he := h.e
  rw [lastW_all x (by omega), lastW_all y (by omega)] at he
  have h1 := worth_lt x hx
  have h2 := worth_lt y hy
  have p1 : 10 ^ x.length ≤ 10 ^ max x.length y.length := Nat.pow_le_pow_right (by omega) (by omega)
  have p2 : 10 ^ y.length ≤ 10 ^ max x.length y.length := Nat.pow_le_pow_right (by omega) (by omega)
  have p3 : 10 ^ out.length = 10 * 10 ^ max x.length y.length := by rw [hl, Nat.pow_succ, Nat.mul_comm]
  have hc : c = 0 := by
    have := h.le
    refine Classical.byContradiction fun hn => ?_
    have : c = 1 := by omega
    rw [this, p3] at he
    omega
  rw [hc] at he
  omega
end Go.Proofs.YtcmfkheohhfpiaaGreatDoor

namespace Go.Proofs.YtcmfkheohhfpiaaGreatDoor
open Go.RowKit
/-- Three words in a block. -/
def ctBox (a b c : Nat) : Obj := .cells #[.int .u64 a, .int .u64 b, .int .u64 c] 144
theorem add64_all (x y c : Nat) (hx : x < 18446744073709551616) (hy : y < 18446744073709551616) (hc : c ≤ 1) (w : World) :
    (callFunc 104 #[.int .u64 x, .int .u64 y, .int .u64 c]).run Tryz.prog w = .ok (.value (.tuple #[.int .u64 ((x + y + c) % 18446744073709551616 : Nat), .int .u64 ((x + y + c) / 18446744073709551616 : Nat)])) w := by
  rw [run_callFunc_extern Tryz.func104 (by kernel_rfl) (by kernel_rfl) (by kernel_rfl) (e := add64Entry) (by kernel_rfl), run_add64 x y c (by omega) (by omega) (by omega) (by omega)]
  rw [show ((x : Int) + (y : Int) + (c : Int)) = ((x + y + c : Nat) : Int) by omega]
  rfl
/-- The number's block while a word is laid anew. -/
structure CtS (w : World) (B : Nat) (o1 o2 : Obj) (l : Nat → Bool) (w' : World) : Prop where
  ld : l 15 = true → l 6 = true
  b : w'.heap[B]? = some (if l 15 then o2 else o1)
  bl : Below B w w'
theorem CtS.upd {w : World} {B : Nat} {o1 o2 : Obj} {l : Nat → Bool} {w' : World} {i : Nat} (h : CtS w B o1 o2 l w') (hi : i ≠ 15) : CtS w B o1 o2 (updB l i) w' := by
  have e : updB l i 15 = l 15 := by unfold updB; rw [if_neg (fun e => hi e.symm)]
  refine ⟨fun h15 => ?_, by rw [e]; exact h.b, h.bl⟩
  rw [e] at h15
  have := h.ld h15
  unfold updB
  split
  · rfl
  · exact this
theorem ct_setI {w : World} {b : Nat} {cs : Array Value} {t : TypeId} {l} (h : w.heap[b]? = some (.cells cs t l)) (i : Nat) (v : Value) : (w.setCell ⟨b, i, none⟩ v).heap[b]? = some (.cells (cs.setIfInBounds i v) t l) := by
  simp [World.setCell, Array.getElem?_modify, h]
theorem CtS.put {w : World} {B : Nat} {o1 o2 : Obj} {l : Nat → Bool} {w' : World} {i : Nat} {v : Value} (h : CtS w B o1 o2 l w') (h6 : l 6 = true) (hv : (w'.setCell ⟨B, i, none⟩ v).heap[B]? = some o2) :
    CtS w B o1 o2 (updB l 15) (w'.setCell ⟨B, i, none⟩ v) := by
  refine ⟨fun _ => ?_, ?_, h.bl.setCell (Nat.le_refl B) _⟩
  · unfold updB
    rw [if_neg (by decide)]
    exact h6
  · unfold updB
    rw [if_pos rfl]
    exact hv
-- RA
set_option maxRecDepth 100000 in
set_option maxHeartbeats 1000000 in
theorem add_q0 (a0 a1 a2 m n x s0 k0 s1 k1 s2 k2 : Nat) (B : Nat) (w : World) (hm : m < 64)
    (hb : w.heap[B]? = some (ctBox a0 a1 a2)) (hq : (n : Int) / 64 = 0) (hr : (n : Int) % 64 = (m : Int)) (hx : IntKind.u64.wrap (2 ^ m) = (x : Int))
    (had0 : ∀ W, (callFunc 104 #[.int .u64 a0, .int .u64 x, .int .u64 0]).run Tryz.prog W = .ok (.value (.tuple #[.int .u64 s0, .int .u64 k0])) W)
    (had1 : ∀ W, (callFunc 104 #[.int .u64 a1, .int .u64 0, .int .u64 k0]).run Tryz.prog W = .ok (.value (.tuple #[.int .u64 s1, .int .u64 k1])) W)
    (had2 : ∀ W, (callFunc 104 #[.int .u64 a2, .int .u64 0, .int .u64 k1]).run Tryz.prog W = .ok (.value (.tuple #[.int .u64 s2, .int .u64 k2])) W) :
    Calls Tryz.prog 82 #[.pointer (some ⟨B, 0, none⟩), .int .i64 n] w fun e w' => e = .returned (.tuple #[]) ∧ w'.heap[B]? = some (ctBox s0 s1 s2) ∧ Below B w w' := by
  go_enter Tryz.func82, Tryz.ntmps82
  go_wp2_with fail
  refine wp_loop_rounds 4 ?_
  rw [rounds_succ]
  go_upto_region 7 with (fail)
  have hbB : B < w.heap.size := lt_of_block hb
  refine wp_region_exact 16 (fun f' => ⟨#[.pointer (some ⟨B, 0, none⟩), .int .i64 n, undef, undef, .int .u64 0, .int .i64 0, .int .u64 x, .int .i64 0, .bool true, .int .i64 0, .int .i64 n, .int .i64 0, .int .i64 0, .bool true, .int .i64 n, .int .i64 ((n : Int) % 64), .int .u64 x, f' 10, f' 0, f' 1, f' 2, f' 3, f' 4, f' 5, f' 6, f' 7, f' 8, f' 9, f' 11, f' 12, f' 13, f' 14, undef], []⟩) (fun i9 => match i9 with | 0 => .pointer (some ⟨B, 0, none⟩) | 1 => .int .i64 0 | 2 => .pointer (some ⟨B, 0, none⟩) | 3 => .int .i64 0 | 4 => .pointer (some ⟨B, 0, none⟩) | 5 => .pointer (some ⟨B, 0, none⟩) | 6 => .int .u64 a0 | 7 => .int .u64 x | 8 => .int .u64 0 | 9 => .tuple #[.int .u64 s0, .int .u64 k0] | 10 => .tuple #[.int .u64 s0, .int .u64 k0] | 11 => .int .u64 s0 | 12 => .int .u64 k0 | 13 => .pointer (some ⟨B, 0, none⟩) | 14 => .pointer (some ⟨B, 0, none⟩) | 15 => undef | _ => undef) (fun lb w' => Hid (CtS w B (ctBox a0 a1 a2) (ctBox s0 a1 a2) lb w')) (fun _ => undef) 10 (show Tryz.prog.follows .mixedOrders = true from by kernel_rfl) (by kernel_rfl) ?_ ?_ (Lib.hid ⟨by simp, by simpa using hb, (Below.refl _ _).drew⟩)
  · intro i9 op hi9 ho lb f' w' hl hS hd
    have hcase : i9 = 0 ∨ i9 = 1 ∨ i9 = 2 ∨ i9 = 3 ∨ i9 = 4 ∨ i9 = 5 ∨ i9 = 6 ∨ i9 = 7 ∨ i9 = 8 ∨ i9 = 9 ∨ i9 = 10 ∨ i9 = 11 ∨ i9 = 12 ∨ i9 = 13 ∨ i9 = 14 ∨ i9 = 15 := by omega
    rcases hcase with rfl | rfl | rfl | rfl | rfl | rfl | rfl | rfl | rfl | rfl | rfl | rfl | rfl | rfl | rfl | rfl <;> (replace ho := Option.some.inj ho; subst ho)
    · refine OpStep.of rfl ?_
      unfold Oper.wp
      go_simp
      first | exact ⟨by first | (simp [upd]; done) | (simp [upd]; omega), Lib.hid (hS.out.upd (by decide))⟩ | (simp [upd]; done) | (simp [upd]; omega)
    · refine OpStep.of rfl ?_
      unfold Oper.wp
      go_simp
      first | exact ⟨by first | (simp [upd]; done) | (simp [upd]; omega), Lib.hid (hS.out.upd (by decide))⟩ | (simp [upd]; done) | (simp [upd]; omega)
    · refine OpStep.of rfl ?_
      unfold Oper.wp
      go_simp
      first | exact ⟨by first | (simp [upd]; done) | (simp [upd]; omega), Lib.hid (hS.out.upd (by decide))⟩ | (simp [upd]; done) | (simp [upd]; omega)
    · refine OpStep.of rfl ?_
      unfold Oper.wp
      go_simp
      first | exact ⟨by first | (simp [upd]; done) | (simp [upd]; omega), Lib.hid (hS.out.upd (by decide))⟩ | (simp [upd]; done) | (simp [upd]; omega)
    · have e2 : f' 2 = .pointer (some ⟨B, 0, none⟩) := (hd ⟨2, .data⟩ (by simp) rfl).2
      refine OpStep.of rfl ?_
      unfold Oper.wp
      go_simp
      exact ⟨by simp [upd, e2], Lib.hid (hS.out.upd (by decide))⟩
    · have e3 : f' 3 = .int .i64 0 := (hd ⟨3, .data⟩ (by simp) rfl).2
      have e4 : f' 4 = .pointer (some ⟨B, 0, none⟩) := (hd ⟨4, .data⟩ (by simp) rfl).2
      refine OpStep.of rfl ?_
      unfold Oper.wp
      go_simp
      exact ⟨by simp [upd, e3, e4], Lib.hid (hS.out.upd (by decide))⟩
    · have e5 : f' 5 = .pointer (some ⟨B, 0, none⟩) := (hd ⟨5, .data⟩ (by simp) rfl).2
      refine OpStep.of rfl ?_
      have l15 : lb 15 = false := by
        rcases hh : lb 15 with _ | _
        · rfl
        · exact absurd (hS.out.ld hh) (by rw [hl]; simp)
      have hbx := hS.out.b
      rw [l15] at hbx
      simp only [Bool.false_eq_true, if_false] at hbx
      obtain ⟨z0, z1, z2, -⟩ := res3 hbx
      unfold Oper.wp
      go_simp
      first | exact ⟨by first | (simp [upd, e5]; done) | (simp [upd, e5]; omega), Lib.hid (hS.out.upd (by decide))⟩ | (simp [upd, e5]; done) | (simp [upd, e5]; omega)
    · refine OpStep.of rfl ?_
      unfold Oper.wp
      go_simp
      first | exact ⟨by first | (simp [upd]; done) | (simp [upd]; omega), Lib.hid (hS.out.upd (by decide))⟩ | (simp [upd]; done) | (simp [upd]; omega)
    · refine OpStep.of rfl ?_
      unfold Oper.wp
      go_simp
      first | exact ⟨by first | (simp [upd]; done) | (simp [upd]; omega), Lib.hid (hS.out.upd (by decide))⟩ | (simp [upd]; done) | (simp [upd]; omega)
    · have e6 : f' 6 = .int .u64 a0 := (hd ⟨6, .data⟩ (by simp) rfl).2
      have e7 : f' 7 = .int .u64 x := (hd ⟨7, .data⟩ (by simp) rfl).2
      have e8 : f' 8 = .int .u64 0 := (hd ⟨8, .data⟩ (by simp) rfl).2
      refine OpStep.of rfl ?_
      unfold Oper.wp
      go_simp
      exact ⟨by simp [upd, e6, e7, e8], Lib.hid (hS.out.upd (by decide))⟩
    · have e9 : f' 9 = .tuple #[.int .u64 s0, .int .u64 k0] := (hd ⟨9, .data⟩ (by simp) rfl).2
      refine OpStep.of rfl ?_
      unfold Oper.wp
      go_simp
      first | exact ⟨by first | (simp [upd, e9]; done) | (simp [upd, e9]; omega), Lib.hid (hS.out.upd (by decide))⟩ | (simp [upd, e9]; done) | (simp [upd, e9]; omega)
    · have e10 : f' 10 = .tuple #[.int .u64 s0, .int .u64 k0] := (hd ⟨10, .data⟩ (by simp) rfl).2
      refine OpStep.of rfl ?_
      unfold Oper.wp
      go_simp
      exact ⟨by simp [upd, e10], Lib.hid (hS.out.upd (by decide))⟩
    · have e10 : f' 10 = .tuple #[.int .u64 s0, .int .u64 k0] := (hd ⟨10, .data⟩ (by simp) rfl).2
      refine OpStep.of rfl ?_
      unfold Oper.wp
      go_simp
      exact ⟨by simp [upd, e10], Lib.hid (hS.out.upd (by decide))⟩
    · have e0 : f' 0 = .pointer (some ⟨B, 0, none⟩) := (hd ⟨0, .data⟩ (by simp) rfl).2
      refine OpStep.of rfl ?_
      unfold Oper.wp
      go_simp
      exact ⟨by simp [upd, e0], Lib.hid (hS.out.upd (by decide))⟩
    · have e1 : f' 1 = .int .i64 0 := (hd ⟨1, .data⟩ (by simp) rfl).2
      have e13 : f' 13 = .pointer (some ⟨B, 0, none⟩) := (hd ⟨13, .data⟩ (by simp) rfl).2
      refine OpStep.of rfl ?_
      unfold Oper.wp
      go_simp
      exact ⟨by simp [upd, e1, e13], Lib.hid (hS.out.upd (by decide))⟩
    · have e11 : f' 11 = .int .u64 s0 := (hd ⟨11, .data⟩ (by simp) rfl).2
      have e14 : f' 14 = .pointer (some ⟨B, 0, none⟩) := (hd ⟨14, .data⟩ (by simp) rfl).2
      refine OpStep.of rfl ?_
      have l15 : lb 15 = false := hl
      have hbx := hS.out.b
      rw [l15] at hbx
      simp only [Bool.false_eq_true, if_false] at hbx
      have hfz : w'.frozen? ⟨B, 0, none⟩ = false := by simp [World.frozen?, hbx, ctBox]
      obtain ⟨z0, z1, z2, -⟩ := res3 hbx
      have h6 := (hd ⟨6, .phase⟩ (by simp) rfl).1
      have hv := ct_setI hbx 0 (.int .u64 s0)
      unfold Oper.wp
      go_simp
      exact ⟨by simp [upd, e11, e14], Lib.hid (hS.out.put h6 hv)⟩
  · intro op ho lb f' w' hd hS
    have e12 : f' 12 = .int .u64 k0 := (hd 12 (by omega)).2
    replace ho := Option.some.inj ho
    subst ho
    refine ⟨rfl, ?_⟩
    unfold Oper.wp
    go_simp
    have l15 := (hd 15 (by omega)).1
    have hb1 := hS.out.b
    rw [l15] at hb1
    simp only [if_true] at hb1
    have HB1 := Lib.hid hS.out.bl
    clear hd hS l15
    obtain ⟨w1, rfl⟩ : ∃ w1, w1 = w' := ⟨_, rfl⟩
    go_wp2_with fail
    rw [rounds_succ]
    go_upto_region 7 with (fail)
    refine wp_region_exact 16 (fun f' => ⟨#[.pointer (some ⟨B, 0, none⟩), .int .i64 n, undef, undef, .int .u64 k0, .int .i64 1, .int .u64 0, .int .i64 1, .bool true, .int .i64 1, .int .i64 n, .int .i64 0, .int .i64 1, .bool false, .int .i64 n, .int .i64 m, .int .u64 x, f' 10, f' 0, f' 1, f' 2, f' 3, f' 4, f' 5, f' 6, f' 7, f' 8, f' 9, f' 11, f' 12, f' 13, f' 14, .int .i64 1], []⟩) (fun i9 => match i9 with | 0 => .pointer (some ⟨B, 0, none⟩) | 1 => .int .i64 1 | 2 => .pointer (some ⟨B, 0, none⟩) | 3 => .int .i64 1 | 4 => .pointer (some ⟨B, 0, none⟩) | 5 => .pointer (some ⟨B, 1, none⟩) | 6 => .int .u64 a1 | 7 => .int .u64 0 | 8 => .int .u64 k0 | 9 => .tuple #[.int .u64 s1, .int .u64 k1] | 10 => .tuple #[.int .u64 s1, .int .u64 k1] | 11 => .int .u64 s1 | 12 => .int .u64 k1 | 13 => .pointer (some ⟨B, 0, none⟩) | 14 => .pointer (some ⟨B, 1, none⟩) | 15 => undef | _ => undef) (fun lb w' => Hid (CtS w1 B (ctBox s0 a1 a2) (ctBox s0 s1 a2) lb w')) (fun i9 => match i9 with | 0 => .pointer (some ⟨B, 0, none⟩) | 1 => .int .i64 0 | 2 => .pointer (some ⟨B, 0, none⟩) | 3 => .int .i64 0 | 4 => .pointer (some ⟨B, 0, none⟩) | 5 => .pointer (some ⟨B, 0, none⟩) | 6 => .int .u64 a0 | 7 => .int .u64 x | 8 => .int .u64 0 | 9 => .tuple #[.int .u64 s0, .int .u64 k0] | 10 => .tuple #[.int .u64 s0, .int .u64 k0] | 11 => .int .u64 s0 | 12 => .int .u64 k0 | 13 => .pointer (some ⟨B, 0, none⟩) | 14 => .pointer (some ⟨B, 0, none⟩) | _ => undef) 10 (show Tryz.prog.follows .mixedOrders = true from by kernel_rfl) (by kernel_rfl) ?_ ?_ (Lib.hid ⟨by simp, by simpa using hb1, (Below.refl _ _).drew⟩)
    · intro i9 op hi9 ho lb f' w' hl hS hd
      have hcase : i9 = 0 ∨ i9 = 1 ∨ i9 = 2 ∨ i9 = 3 ∨ i9 = 4 ∨ i9 = 5 ∨ i9 = 6 ∨ i9 = 7 ∨ i9 = 8 ∨ i9 = 9 ∨ i9 = 10 ∨ i9 = 11 ∨ i9 = 12 ∨ i9 = 13 ∨ i9 = 14 ∨ i9 = 15 := by omega
      rcases hcase with rfl | rfl | rfl | rfl | rfl | rfl | rfl | rfl | rfl | rfl | rfl | rfl | rfl | rfl | rfl | rfl <;> (replace ho := Option.some.inj ho; subst ho)
      · refine OpStep.of rfl ?_
        unfold Oper.wp
        go_simp
        first | exact ⟨by first | (simp [upd]; done) | (simp [upd]; omega), Lib.hid (hS.out.upd (by decide))⟩ | (simp [upd]; done) | (simp [upd]; omega)
      · refine OpStep.of rfl ?_
        unfold Oper.wp
        go_simp
        first | exact ⟨by first | (simp [upd]; done) | (simp [upd]; omega), Lib.hid (hS.out.upd (by decide))⟩ | (simp [upd]; done) | (simp [upd]; omega)
      · refine OpStep.of rfl ?_
        unfold Oper.wp
        go_simp
        first | exact ⟨by first | (simp [upd]; done) | (simp [upd]; omega), Lib.hid (hS.out.upd (by decide))⟩ | (simp [upd]; done) | (simp [upd]; omega)
      · refine OpStep.of rfl ?_
        unfold Oper.wp
        go_simp
        first | exact ⟨by first | (simp [upd]; done) | (simp [upd]; omega), Lib.hid (hS.out.upd (by decide))⟩ | (simp [upd]; done) | (simp [upd]; omega)
      · have e2 : f' 2 = .pointer (some ⟨B, 0, none⟩) := (hd ⟨2, .data⟩ (by simp) rfl).2
        refine OpStep.of rfl ?_
        unfold Oper.wp
        go_simp
        exact ⟨by simp [upd, e2], Lib.hid (hS.out.upd (by decide))⟩
      · have e3 : f' 3 = .int .i64 1 := (hd ⟨3, .data⟩ (by simp) rfl).2
        have e4 : f' 4 = .pointer (some ⟨B, 0, none⟩) := (hd ⟨4, .data⟩ (by simp) rfl).2
        refine OpStep.of rfl ?_
        unfold Oper.wp
        go_simp
        exact ⟨by simp [upd, e3, e4], Lib.hid (hS.out.upd (by decide))⟩
      · have e5 : f' 5 = .pointer (some ⟨B, 1, none⟩) := (hd ⟨5, .data⟩ (by simp) rfl).2
        refine OpStep.of rfl ?_
        have l15 : lb 15 = false := by
          rcases hh : lb 15 with _ | _
          · rfl
          · exact absurd (hS.out.ld hh) (by rw [hl]; simp)
        have hbx := hS.out.b
        rw [l15] at hbx
        simp only [Bool.false_eq_true, if_false] at hbx
        obtain ⟨z0, z1, z2, -⟩ := res3 hbx
        unfold Oper.wp
        go_simp
        first | exact ⟨by first | (simp [upd, e5]; done) | (simp [upd, e5]; omega), Lib.hid (hS.out.upd (by decide))⟩ | (simp [upd, e5]; done) | (simp [upd, e5]; omega)
      · refine OpStep.of rfl ?_
        unfold Oper.wp
        go_simp
        first | exact ⟨by first | (simp [upd]; done) | (simp [upd]; omega), Lib.hid (hS.out.upd (by decide))⟩ | (simp [upd]; done) | (simp [upd]; omega)
      · refine OpStep.of rfl ?_
        unfold Oper.wp
        go_simp
        first | exact ⟨by first | (simp [upd]; done) | (simp [upd]; omega), Lib.hid (hS.out.upd (by decide))⟩ | (simp [upd]; done) | (simp [upd]; omega)
      · have e6 : f' 6 = .int .u64 a1 := (hd ⟨6, .data⟩ (by simp) rfl).2
        have e7 : f' 7 = .int .u64 0 := (hd ⟨7, .data⟩ (by simp) rfl).2
        have e8 : f' 8 = .int .u64 k0 := (hd ⟨8, .data⟩ (by simp) rfl).2
        refine OpStep.of rfl ?_
        unfold Oper.wp
        go_simp
        exact ⟨by simp [upd, e6, e7, e8], Lib.hid (hS.out.upd (by decide))⟩
      · have e9 : f' 9 = .tuple #[.int .u64 s1, .int .u64 k1] := (hd ⟨9, .data⟩ (by simp) rfl).2
        refine OpStep.of rfl ?_
        unfold Oper.wp
        go_simp
        first | exact ⟨by first | (simp [upd, e9]; done) | (simp [upd, e9]; omega), Lib.hid (hS.out.upd (by decide))⟩ | (simp [upd, e9]; done) | (simp [upd, e9]; omega)
      · have e10 : f' 10 = .tuple #[.int .u64 s1, .int .u64 k1] := (hd ⟨10, .data⟩ (by simp) rfl).2
        refine OpStep.of rfl ?_
        unfold Oper.wp
        go_simp
        exact ⟨by simp [upd, e10], Lib.hid (hS.out.upd (by decide))⟩
      · have e10 : f' 10 = .tuple #[.int .u64 s1, .int .u64 k1] := (hd ⟨10, .data⟩ (by simp) rfl).2
        refine OpStep.of rfl ?_
        unfold Oper.wp
        go_simp
        exact ⟨by simp [upd, e10], Lib.hid (hS.out.upd (by decide))⟩
      · have e0 : f' 0 = .pointer (some ⟨B, 0, none⟩) := (hd ⟨0, .data⟩ (by simp) rfl).2
        refine OpStep.of rfl ?_
        unfold Oper.wp
        go_simp
        exact ⟨by simp [upd, e0], Lib.hid (hS.out.upd (by decide))⟩
      · have e1 : f' 1 = .int .i64 1 := (hd ⟨1, .data⟩ (by simp) rfl).2
        have e13 : f' 13 = .pointer (some ⟨B, 0, none⟩) := (hd ⟨13, .data⟩ (by simp) rfl).2
        refine OpStep.of rfl ?_
        unfold Oper.wp
        go_simp
        exact ⟨by simp [upd, e1, e13], Lib.hid (hS.out.upd (by decide))⟩
      · have e11 : f' 11 = .int .u64 s1 := (hd ⟨11, .data⟩ (by simp) rfl).2
        have e14 : f' 14 = .pointer (some ⟨B, 1, none⟩) := (hd ⟨14, .data⟩ (by simp) rfl).2
        refine OpStep.of rfl ?_
        have l15 : lb 15 = false := hl
        have hbx := hS.out.b
        rw [l15] at hbx
        simp only [Bool.false_eq_true, if_false] at hbx
        have hfz : w'.frozen? ⟨B, 1, none⟩ = false := by simp [World.frozen?, hbx, ctBox]
        obtain ⟨z0, z1, z2, -⟩ := res3 hbx
        have h6 := (hd ⟨6, .phase⟩ (by simp) rfl).1
        have hv := ct_setI hbx 1 (.int .u64 s1)
        unfold Oper.wp
        go_simp
        exact ⟨by simp [upd, e11, e14], Lib.hid (hS.out.put h6 hv)⟩
    · intro op ho lb f' w' hd hS
      have e12 : f' 12 = .int .u64 k1 := (hd 12 (by omega)).2
      replace ho := Option.some.inj ho
      subst ho
      refine ⟨rfl, ?_⟩
      unfold Oper.wp
      go_simp
      have l15 := (hd 15 (by omega)).1
      have hb2 := hS.out.b
      rw [l15] at hb2
      simp only [if_true] at hb2
      have HB2 := Lib.hid hS.out.bl
      clear hd hS l15
      obtain ⟨w2, rfl⟩ : ∃ w2, w2 = w' := ⟨_, rfl⟩
      go_wp2_with fail
      rw [rounds_succ]
      go_upto_region 7 with (fail)
      refine wp_region_exact 16 (fun f' => ⟨#[.pointer (some ⟨B, 0, none⟩), .int .i64 n, undef, undef, .int .u64 k1, .int .i64 2, .int .u64 0, .int .i64 2, .bool true, .int .i64 2, .int .i64 n, .int .i64 0, .int .i64 2, .bool false, .int .i64 n, .int .i64 m, .int .u64 x, f' 10, f' 0, f' 1, f' 2, f' 3, f' 4, f' 5, f' 6, f' 7, f' 8, f' 9, f' 11, f' 12, f' 13, f' 14, .int .i64 2], []⟩) (fun i9 => match i9 with | 0 => .pointer (some ⟨B, 0, none⟩) | 1 => .int .i64 2 | 2 => .pointer (some ⟨B, 0, none⟩) | 3 => .int .i64 2 | 4 => .pointer (some ⟨B, 0, none⟩) | 5 => .pointer (some ⟨B, 2, none⟩) | 6 => .int .u64 a2 | 7 => .int .u64 0 | 8 => .int .u64 k1 | 9 => .tuple #[.int .u64 s2, .int .u64 k2] | 10 => .tuple #[.int .u64 s2, .int .u64 k2] | 11 => .int .u64 s2 | 12 => .int .u64 k2 | 13 => .pointer (some ⟨B, 0, none⟩) | 14 => .pointer (some ⟨B, 2, none⟩) | 15 => undef | _ => undef) (fun lb w' => Hid (CtS w2 B (ctBox s0 s1 a2) (ctBox s0 s1 s2) lb w')) (fun i9 => match i9 with | 0 => .pointer (some ⟨B, 0, none⟩) | 1 => .int .i64 1 | 2 => .pointer (some ⟨B, 0, none⟩) | 3 => .int .i64 1 | 4 => .pointer (some ⟨B, 0, none⟩) | 5 => .pointer (some ⟨B, 1, none⟩) | 6 => .int .u64 a1 | 7 => .int .u64 0 | 8 => .int .u64 k0 | 9 => .tuple #[.int .u64 s1, .int .u64 k1] | 10 => .tuple #[.int .u64 s1, .int .u64 k1] | 11 => .int .u64 s1 | 12 => .int .u64 k1 | 13 => .pointer (some ⟨B, 0, none⟩) | 14 => .pointer (some ⟨B, 1, none⟩) | _ => undef) 10 (show Tryz.prog.follows .mixedOrders = true from by kernel_rfl) (by kernel_rfl) ?_ ?_ (Lib.hid ⟨by simp, by simpa using hb2, (Below.refl _ _).drew⟩)
      · intro i9 op hi9 ho lb f' w' hl hS hd
        have hcase : i9 = 0 ∨ i9 = 1 ∨ i9 = 2 ∨ i9 = 3 ∨ i9 = 4 ∨ i9 = 5 ∨ i9 = 6 ∨ i9 = 7 ∨ i9 = 8 ∨ i9 = 9 ∨ i9 = 10 ∨ i9 = 11 ∨ i9 = 12 ∨ i9 = 13 ∨ i9 = 14 ∨ i9 = 15 := by omega
        rcases hcase with rfl | rfl | rfl | rfl | rfl | rfl | rfl | rfl | rfl | rfl | rfl | rfl | rfl | rfl | rfl | rfl <;> (replace ho := Option.some.inj ho; subst ho)
        · refine OpStep.of rfl ?_
          unfold Oper.wp
          go_simp
          first | exact ⟨by first | (simp [upd]; done) | (simp [upd]; omega), Lib.hid (hS.out.upd (by decide))⟩ | (simp [upd]; done) | (simp [upd]; omega)
        · refine OpStep.of rfl ?_
          unfold Oper.wp
          go_simp
          first | exact ⟨by first | (simp [upd]; done) | (simp [upd]; omega), Lib.hid (hS.out.upd (by decide))⟩ | (simp [upd]; done) | (simp [upd]; omega)
        · refine OpStep.of rfl ?_
          unfold Oper.wp
          go_simp
          first | exact ⟨by first | (simp [upd]; done) | (simp [upd]; omega), Lib.hid (hS.out.upd (by decide))⟩ | (simp [upd]; done) | (simp [upd]; omega)
        · refine OpStep.of rfl ?_
          unfold Oper.wp
          go_simp
          first | exact ⟨by first | (simp [upd]; done) | (simp [upd]; omega), Lib.hid (hS.out.upd (by decide))⟩ | (simp [upd]; done) | (simp [upd]; omega)
        · have e2 : f' 2 = .pointer (some ⟨B, 0, none⟩) := (hd ⟨2, .data⟩ (by simp) rfl).2
          refine OpStep.of rfl ?_
          unfold Oper.wp
          go_simp
          exact ⟨by simp [upd, e2], Lib.hid (hS.out.upd (by decide))⟩
        · have e3 : f' 3 = .int .i64 2 := (hd ⟨3, .data⟩ (by simp) rfl).2
          have e4 : f' 4 = .pointer (some ⟨B, 0, none⟩) := (hd ⟨4, .data⟩ (by simp) rfl).2
          refine OpStep.of rfl ?_
          unfold Oper.wp
          go_simp
          exact ⟨by simp [upd, e3, e4], Lib.hid (hS.out.upd (by decide))⟩
        · have e5 : f' 5 = .pointer (some ⟨B, 2, none⟩) := (hd ⟨5, .data⟩ (by simp) rfl).2
          refine OpStep.of rfl ?_
          have l15 : lb 15 = false := by
            rcases hh : lb 15 with _ | _
            · rfl
            · exact absurd (hS.out.ld hh) (by rw [hl]; simp)
          have hbx := hS.out.b
          rw [l15] at hbx
          simp only [Bool.false_eq_true, if_false] at hbx
          obtain ⟨z0, z1, z2, -⟩ := res3 hbx
          unfold Oper.wp
          go_simp
          first | exact ⟨by first | (simp [upd, e5]; done) | (simp [upd, e5]; omega), Lib.hid (hS.out.upd (by decide))⟩ | (simp [upd, e5]; done) | (simp [upd, e5]; omega)
        · refine OpStep.of rfl ?_
          unfold Oper.wp
          go_simp
          first | exact ⟨by first | (simp [upd]; done) | (simp [upd]; omega), Lib.hid (hS.out.upd (by decide))⟩ | (simp [upd]; done) | (simp [upd]; omega)
        · refine OpStep.of rfl ?_
          unfold Oper.wp
          go_simp
          first | exact ⟨by first | (simp [upd]; done) | (simp [upd]; omega), Lib.hid (hS.out.upd (by decide))⟩ | (simp [upd]; done) | (simp [upd]; omega)
        · have e6 : f' 6 = .int .u64 a2 := (hd ⟨6, .data⟩ (by simp) rfl).2
          have e7 : f' 7 = .int .u64 0 := (hd ⟨7, .data⟩ (by simp) rfl).2
          have e8 : f' 8 = .int .u64 k1 := (hd ⟨8, .data⟩ (by simp) rfl).2
          refine OpStep.of rfl ?_
          unfold Oper.wp
          go_simp
          exact ⟨by simp [upd, e6, e7, e8], Lib.hid (hS.out.upd (by decide))⟩
        · have e9 : f' 9 = .tuple #[.int .u64 s2, .int .u64 k2] := (hd ⟨9, .data⟩ (by simp) rfl).2
          refine OpStep.of rfl ?_
          unfold Oper.wp
          go_simp
          first | exact ⟨by first | (simp [upd, e9]; done) | (simp [upd, e9]; omega), Lib.hid (hS.out.upd (by decide))⟩ | (simp [upd, e9]; done) | (simp [upd, e9]; omega)
        · have e10 : f' 10 = .tuple #[.int .u64 s2, .int .u64 k2] := (hd ⟨10, .data⟩ (by simp) rfl).2
          refine OpStep.of rfl ?_
          unfold Oper.wp
          go_simp
          exact ⟨by simp [upd, e10], Lib.hid (hS.out.upd (by decide))⟩
        · have e10 : f' 10 = .tuple #[.int .u64 s2, .int .u64 k2] := (hd ⟨10, .data⟩ (by simp) rfl).2
          refine OpStep.of rfl ?_
          unfold Oper.wp
          go_simp
          exact ⟨by simp [upd, e10], Lib.hid (hS.out.upd (by decide))⟩
        · have e0 : f' 0 = .pointer (some ⟨B, 0, none⟩) := (hd ⟨0, .data⟩ (by simp) rfl).2
          refine OpStep.of rfl ?_
          unfold Oper.wp
          go_simp
          exact ⟨by simp [upd, e0], Lib.hid (hS.out.upd (by decide))⟩
        · have e1 : f' 1 = .int .i64 2 := (hd ⟨1, .data⟩ (by simp) rfl).2
          have e13 : f' 13 = .pointer (some ⟨B, 0, none⟩) := (hd ⟨13, .data⟩ (by simp) rfl).2
          refine OpStep.of rfl ?_
          unfold Oper.wp
          go_simp
          exact ⟨by simp [upd, e1, e13], Lib.hid (hS.out.upd (by decide))⟩
        · have e11 : f' 11 = .int .u64 s2 := (hd ⟨11, .data⟩ (by simp) rfl).2
          have e14 : f' 14 = .pointer (some ⟨B, 2, none⟩) := (hd ⟨14, .data⟩ (by simp) rfl).2
          refine OpStep.of rfl ?_
          have l15 : lb 15 = false := hl
          have hbx := hS.out.b
          rw [l15] at hbx
          simp only [Bool.false_eq_true, if_false] at hbx
          have hfz : w'.frozen? ⟨B, 2, none⟩ = false := by simp [World.frozen?, hbx, ctBox]
          obtain ⟨z0, z1, z2, -⟩ := res3 hbx
          have h6 := (hd ⟨6, .phase⟩ (by simp) rfl).1
          have hv := ct_setI hbx 2 (.int .u64 s2)
          unfold Oper.wp
          go_simp
          exact ⟨by simp [upd, e11, e14], Lib.hid (hS.out.put h6 hv)⟩
      · intro op ho lb f' w' hd hS
        have e12 : f' 12 = .int .u64 k2 := (hd 12 (by omega)).2
        replace ho := Option.some.inj ho
        subst ho
        refine ⟨rfl, ?_⟩
        unfold Oper.wp
        go_simp
        have l15 := (hd 15 (by omega)).1
        have hb3 := hS.out.b
        rw [l15] at hb3
        simp only [if_true] at hb3
        have HB3 := Lib.hid hS.out.bl
        clear hd hS l15
        obtain ⟨w3, rfl⟩ : ∃ w3, w3 = w' := ⟨_, rfl⟩
        go_wp2_with fail
        first | rw [rounds_succ] | skip
        go_wp2_with fail
        go_end0
        exact ⟨rfl, hb3, (HB1.out.trans HB2.out).trans HB3.out⟩
set_option maxRecDepth 100000 in
set_option maxHeartbeats 1000000 in
theorem add_q1 (a0 a1 a2 m n x s0 k0 s1 k1 s2 k2 : Nat) (B : Nat) (w : World) (hm : m < 64)
    (hb : w.heap[B]? = some (ctBox a0 a1 a2)) (hq : (n : Int) / 64 = 1) (hr : (n : Int) % 64 = (m : Int)) (hx : IntKind.u64.wrap (2 ^ m) = (x : Int))
    (had0 : ∀ W, (callFunc 104 #[.int .u64 a0, .int .u64 0, .int .u64 0]).run Tryz.prog W = .ok (.value (.tuple #[.int .u64 s0, .int .u64 k0])) W)
    (had1 : ∀ W, (callFunc 104 #[.int .u64 a1, .int .u64 x, .int .u64 k0]).run Tryz.prog W = .ok (.value (.tuple #[.int .u64 s1, .int .u64 k1])) W)
    (had2 : ∀ W, (callFunc 104 #[.int .u64 a2, .int .u64 0, .int .u64 k1]).run Tryz.prog W = .ok (.value (.tuple #[.int .u64 s2, .int .u64 k2])) W) :
    Calls Tryz.prog 82 #[.pointer (some ⟨B, 0, none⟩), .int .i64 n] w fun e w' => e = .returned (.tuple #[]) ∧ w'.heap[B]? = some (ctBox s0 s1 s2) ∧ Below B w w' := by
  go_enter Tryz.func82, Tryz.ntmps82
  go_wp2_with fail
  refine wp_loop_rounds 4 ?_
  rw [rounds_succ]
  go_upto_region 7 with (fail)
  have hbB : B < w.heap.size := lt_of_block hb
  refine wp_region_exact 16 (fun f' => ⟨#[.pointer (some ⟨B, 0, none⟩), .int .i64 n, undef, undef, .int .u64 0, .int .i64 0, .int .u64 0, .int .i64 0, .bool true, .int .i64 0, .int .i64 n, .int .i64 1, .int .i64 0, .bool false, undef, undef, undef, f' 10, f' 0, f' 1, f' 2, f' 3, f' 4, f' 5, f' 6, f' 7, f' 8, f' 9, f' 11, f' 12, f' 13, f' 14, undef], []⟩) (fun i9 => match i9 with | 0 => .pointer (some ⟨B, 0, none⟩) | 1 => .int .i64 0 | 2 => .pointer (some ⟨B, 0, none⟩) | 3 => .int .i64 0 | 4 => .pointer (some ⟨B, 0, none⟩) | 5 => .pointer (some ⟨B, 0, none⟩) | 6 => .int .u64 a0 | 7 => .int .u64 0 | 8 => .int .u64 0 | 9 => .tuple #[.int .u64 s0, .int .u64 k0] | 10 => .tuple #[.int .u64 s0, .int .u64 k0] | 11 => .int .u64 s0 | 12 => .int .u64 k0 | 13 => .pointer (some ⟨B, 0, none⟩) | 14 => .pointer (some ⟨B, 0, none⟩) | 15 => undef | _ => undef) (fun lb w' => Hid (CtS w B (ctBox a0 a1 a2) (ctBox s0 a1 a2) lb w')) (fun _ => undef) 10 (show Tryz.prog.follows .mixedOrders = true from by kernel_rfl) (by kernel_rfl) ?_ ?_ (Lib.hid ⟨by simp, by simpa using hb, (Below.refl _ _).drew⟩)
  · intro i9 op hi9 ho lb f' w' hl hS hd
    have hcase : i9 = 0 ∨ i9 = 1 ∨ i9 = 2 ∨ i9 = 3 ∨ i9 = 4 ∨ i9 = 5 ∨ i9 = 6 ∨ i9 = 7 ∨ i9 = 8 ∨ i9 = 9 ∨ i9 = 10 ∨ i9 = 11 ∨ i9 = 12 ∨ i9 = 13 ∨ i9 = 14 ∨ i9 = 15 := by omega
    rcases hcase with rfl | rfl | rfl | rfl | rfl | rfl | rfl | rfl | rfl | rfl | rfl | rfl | rfl | rfl | rfl | rfl <;> (replace ho := Option.some.inj ho; subst ho)
    · refine OpStep.of rfl ?_
      unfold Oper.wp
      go_simp
      first | exact ⟨by first | (simp [upd]; done) | (simp [upd]; omega), Lib.hid (hS.out.upd (by decide))⟩ | (simp [upd]; done) | (simp [upd]; omega)
    · refine OpStep.of rfl ?_
      unfold Oper.wp
      go_simp
      first | exact ⟨by first | (simp [upd]; done) | (simp [upd]; omega), Lib.hid (hS.out.upd (by decide))⟩ | (simp [upd]; done) | (simp [upd]; omega)
    · refine OpStep.of rfl ?_
      unfold Oper.wp
      go_simp
      first | exact ⟨by first | (simp [upd]; done) | (simp [upd]; omega), Lib.hid (hS.out.upd (by decide))⟩ | (simp [upd]; done) | (simp [upd]; omega)
    · refine OpStep.of rfl ?_
      unfold Oper.wp
      go_simp
      first | exact ⟨by first | (simp [upd]; done) | (simp [upd]; omega), Lib.hid (hS.out.upd (by decide))⟩ | (simp [upd]; done) | (simp [upd]; omega)
    · have e2 : f' 2 = .pointer (some ⟨B, 0, none⟩) := (hd ⟨2, .data⟩ (by simp) rfl).2
      refine OpStep.of rfl ?_
      unfold Oper.wp
      go_simp
      exact ⟨by simp [upd, e2], Lib.hid (hS.out.upd (by decide))⟩
    · have e3 : f' 3 = .int .i64 0 := (hd ⟨3, .data⟩ (by simp) rfl).2
      have e4 : f' 4 = .pointer (some ⟨B, 0, none⟩) := (hd ⟨4, .data⟩ (by simp) rfl).2
      refine OpStep.of rfl ?_
      unfold Oper.wp
      go_simp
      exact ⟨by simp [upd, e3, e4], Lib.hid (hS.out.upd (by decide))⟩
    · have e5 : f' 5 = .pointer (some ⟨B, 0, none⟩) := (hd ⟨5, .data⟩ (by simp) rfl).2
      refine OpStep.of rfl ?_
      have l15 : lb 15 = false := by
        rcases hh : lb 15 with _ | _
        · rfl
        · exact absurd (hS.out.ld hh) (by rw [hl]; simp)
      have hbx := hS.out.b
      rw [l15] at hbx
      simp only [Bool.false_eq_true, if_false] at hbx
      obtain ⟨z0, z1, z2, -⟩ := res3 hbx
      unfold Oper.wp
      go_simp
      first | exact ⟨by first | (simp [upd, e5]; done) | (simp [upd, e5]; omega), Lib.hid (hS.out.upd (by decide))⟩ | (simp [upd, e5]; done) | (simp [upd, e5]; omega)
    · refine OpStep.of rfl ?_
      unfold Oper.wp
      go_simp
      first | exact ⟨by first | (simp [upd]; done) | (simp [upd]; omega), Lib.hid (hS.out.upd (by decide))⟩ | (simp [upd]; done) | (simp [upd]; omega)
    · refine OpStep.of rfl ?_
      unfold Oper.wp
      go_simp
      first | exact ⟨by first | (simp [upd]; done) | (simp [upd]; omega), Lib.hid (hS.out.upd (by decide))⟩ | (simp [upd]; done) | (simp [upd]; omega)
    · have e6 : f' 6 = .int .u64 a0 := (hd ⟨6, .data⟩ (by simp) rfl).2
      have e7 : f' 7 = .int .u64 0 := (hd ⟨7, .data⟩ (by simp) rfl).2
      have e8 : f' 8 = .int .u64 0 := (hd ⟨8, .data⟩ (by simp) rfl).2
      refine OpStep.of rfl ?_
      unfold Oper.wp
      go_simp
      exact ⟨by simp [upd, e6, e7, e8], Lib.hid (hS.out.upd (by decide))⟩
    · have e9 : f' 9 = .tuple #[.int .u64 s0, .int .u64 k0] := (hd ⟨9, .data⟩ (by simp) rfl).2
      refine OpStep.of rfl ?_
      unfold Oper.wp
      go_simp
      first | exact ⟨by first | (simp [upd, e9]; done) | (simp [upd, e9]; omega), Lib.hid (hS.out.upd (by decide))⟩ | (simp [upd, e9]; done) | (simp [upd, e9]; omega)
    · have e10 : f' 10 = .tuple #[.int .u64 s0, .int .u64 k0] := (hd ⟨10, .data⟩ (by simp) rfl).2
      refine OpStep.of rfl ?_
      unfold Oper.wp
      go_simp
      exact ⟨by simp [upd, e10], Lib.hid (hS.out.upd (by decide))⟩
    · have e10 : f' 10 = .tuple #[.int .u64 s0, .int .u64 k0] := (hd ⟨10, .data⟩ (by simp) rfl).2
      refine OpStep.of rfl ?_
      unfold Oper.wp
      go_simp
      exact ⟨by simp [upd, e10], Lib.hid (hS.out.upd (by decide))⟩
    · have e0 : f' 0 = .pointer (some ⟨B, 0, none⟩) := (hd ⟨0, .data⟩ (by simp) rfl).2
      refine OpStep.of rfl ?_
      unfold Oper.wp
      go_simp
      exact ⟨by simp [upd, e0], Lib.hid (hS.out.upd (by decide))⟩
    · have e1 : f' 1 = .int .i64 0 := (hd ⟨1, .data⟩ (by simp) rfl).2
      have e13 : f' 13 = .pointer (some ⟨B, 0, none⟩) := (hd ⟨13, .data⟩ (by simp) rfl).2
      refine OpStep.of rfl ?_
      unfold Oper.wp
      go_simp
      exact ⟨by simp [upd, e1, e13], Lib.hid (hS.out.upd (by decide))⟩
    · have e11 : f' 11 = .int .u64 s0 := (hd ⟨11, .data⟩ (by simp) rfl).2
      have e14 : f' 14 = .pointer (some ⟨B, 0, none⟩) := (hd ⟨14, .data⟩ (by simp) rfl).2
      refine OpStep.of rfl ?_
      have l15 : lb 15 = false := hl
      have hbx := hS.out.b
      rw [l15] at hbx
      simp only [Bool.false_eq_true, if_false] at hbx
      have hfz : w'.frozen? ⟨B, 0, none⟩ = false := by simp [World.frozen?, hbx, ctBox]
      obtain ⟨z0, z1, z2, -⟩ := res3 hbx
      have h6 := (hd ⟨6, .phase⟩ (by simp) rfl).1
      have hv := ct_setI hbx 0 (.int .u64 s0)
      unfold Oper.wp
      go_simp
      exact ⟨by simp [upd, e11, e14], Lib.hid (hS.out.put h6 hv)⟩
  · intro op ho lb f' w' hd hS
    have e12 : f' 12 = .int .u64 k0 := (hd 12 (by omega)).2
    replace ho := Option.some.inj ho
    subst ho
    refine ⟨rfl, ?_⟩
    unfold Oper.wp
    go_simp
    have l15 := (hd 15 (by omega)).1
    have hb1 := hS.out.b
    rw [l15] at hb1
    simp only [if_true] at hb1
    have HB1 := Lib.hid hS.out.bl
    clear hd hS l15
    obtain ⟨w1, rfl⟩ : ∃ w1, w1 = w' := ⟨_, rfl⟩
    go_wp2_with fail
    rw [rounds_succ]
    go_upto_region 7 with (fail)
    refine wp_region_exact 16 (fun f' => ⟨#[.pointer (some ⟨B, 0, none⟩), .int .i64 n, undef, undef, .int .u64 k0, .int .i64 1, .int .u64 x, .int .i64 1, .bool true, .int .i64 1, .int .i64 n, .int .i64 1, .int .i64 1, .bool true, .int .i64 n, .int .i64 ((n : Int) % 64), .int .u64 x, f' 10, f' 0, f' 1, f' 2, f' 3, f' 4, f' 5, f' 6, f' 7, f' 8, f' 9, f' 11, f' 12, f' 13, f' 14, .int .i64 1], []⟩) (fun i9 => match i9 with | 0 => .pointer (some ⟨B, 0, none⟩) | 1 => .int .i64 1 | 2 => .pointer (some ⟨B, 0, none⟩) | 3 => .int .i64 1 | 4 => .pointer (some ⟨B, 0, none⟩) | 5 => .pointer (some ⟨B, 1, none⟩) | 6 => .int .u64 a1 | 7 => .int .u64 x | 8 => .int .u64 k0 | 9 => .tuple #[.int .u64 s1, .int .u64 k1] | 10 => .tuple #[.int .u64 s1, .int .u64 k1] | 11 => .int .u64 s1 | 12 => .int .u64 k1 | 13 => .pointer (some ⟨B, 0, none⟩) | 14 => .pointer (some ⟨B, 1, none⟩) | 15 => undef | _ => undef) (fun lb w' => Hid (CtS w1 B (ctBox s0 a1 a2) (ctBox s0 s1 a2) lb w')) (fun i9 => match i9 with | 0 => .pointer (some ⟨B, 0, none⟩) | 1 => .int .i64 0 | 2 => .pointer (some ⟨B, 0, none⟩) | 3 => .int .i64 0 | 4 => .pointer (some ⟨B, 0, none⟩) | 5 => .pointer (some ⟨B, 0, none⟩) | 6 => .int .u64 a0 | 7 => .int .u64 0 | 8 => .int .u64 0 | 9 => .tuple #[.int .u64 s0, .int .u64 k0] | 10 => .tuple #[.int .u64 s0, .int .u64 k0] | 11 => .int .u64 s0 | 12 => .int .u64 k0 | 13 => .pointer (some ⟨B, 0, none⟩) | 14 => .pointer (some ⟨B, 0, none⟩) | _ => undef) 10 (show Tryz.prog.follows .mixedOrders = true from by kernel_rfl) (by kernel_rfl) ?_ ?_ (Lib.hid ⟨by simp, by simpa using hb1, (Below.refl _ _).drew⟩)
    · intro i9 op hi9 ho lb f' w' hl hS hd
      have hcase : i9 = 0 ∨ i9 = 1 ∨ i9 = 2 ∨ i9 = 3 ∨ i9 = 4 ∨ i9 = 5 ∨ i9 = 6 ∨ i9 = 7 ∨ i9 = 8 ∨ i9 = 9 ∨ i9 = 10 ∨ i9 = 11 ∨ i9 = 12 ∨ i9 = 13 ∨ i9 = 14 ∨ i9 = 15 := by omega
      rcases hcase with rfl | rfl | rfl | rfl | rfl | rfl | rfl | rfl | rfl | rfl | rfl | rfl | rfl | rfl | rfl | rfl <;> (replace ho := Option.some.inj ho; subst ho)
      · refine OpStep.of rfl ?_
        unfold Oper.wp
        go_simp
        first | exact ⟨by first | (simp [upd]; done) | (simp [upd]; omega), Lib.hid (hS.out.upd (by decide))⟩ | (simp [upd]; done) | (simp [upd]; omega)
      · refine OpStep.of rfl ?_
        unfold Oper.wp
        go_simp
        first | exact ⟨by first | (simp [upd]; done) | (simp [upd]; omega), Lib.hid (hS.out.upd (by decide))⟩ | (simp [upd]; done) | (simp [upd]; omega)
      · refine OpStep.of rfl ?_
        unfold Oper.wp
        go_simp
        first | exact ⟨by first | (simp [upd]; done) | (simp [upd]; omega), Lib.hid (hS.out.upd (by decide))⟩ | (simp [upd]; done) | (simp [upd]; omega)
      · refine OpStep.of rfl ?_
        unfold Oper.wp
        go_simp
        first | exact ⟨by first | (simp [upd]; done) | (simp [upd]; omega), Lib.hid (hS.out.upd (by decide))⟩ | (simp [upd]; done) | (simp [upd]; omega)
      · have e2 : f' 2 = .pointer (some ⟨B, 0, none⟩) := (hd ⟨2, .data⟩ (by simp) rfl).2
        refine OpStep.of rfl ?_
        unfold Oper.wp
        go_simp
        exact ⟨by simp [upd, e2], Lib.hid (hS.out.upd (by decide))⟩
      · have e3 : f' 3 = .int .i64 1 := (hd ⟨3, .data⟩ (by simp) rfl).2
        have e4 : f' 4 = .pointer (some ⟨B, 0, none⟩) := (hd ⟨4, .data⟩ (by simp) rfl).2
        refine OpStep.of rfl ?_
        unfold Oper.wp
        go_simp
        exact ⟨by simp [upd, e3, e4], Lib.hid (hS.out.upd (by decide))⟩
      · have e5 : f' 5 = .pointer (some ⟨B, 1, none⟩) := (hd ⟨5, .data⟩ (by simp) rfl).2
        refine OpStep.of rfl ?_
        have l15 : lb 15 = false := by
          rcases hh : lb 15 with _ | _
          · rfl
          · exact absurd (hS.out.ld hh) (by rw [hl]; simp)
        have hbx := hS.out.b
        rw [l15] at hbx
        simp only [Bool.false_eq_true, if_false] at hbx
        obtain ⟨z0, z1, z2, -⟩ := res3 hbx
        unfold Oper.wp
        go_simp
        first | exact ⟨by first | (simp [upd, e5]; done) | (simp [upd, e5]; omega), Lib.hid (hS.out.upd (by decide))⟩ | (simp [upd, e5]; done) | (simp [upd, e5]; omega)
      · refine OpStep.of rfl ?_
        unfold Oper.wp
        go_simp
        first | exact ⟨by first | (simp [upd]; done) | (simp [upd]; omega), Lib.hid (hS.out.upd (by decide))⟩ | (simp [upd]; done) | (simp [upd]; omega)
      · refine OpStep.of rfl ?_
        unfold Oper.wp
        go_simp
        first | exact ⟨by first | (simp [upd]; done) | (simp [upd]; omega), Lib.hid (hS.out.upd (by decide))⟩ | (simp [upd]; done) | (simp [upd]; omega)
      · have e6 : f' 6 = .int .u64 a1 := (hd ⟨6, .data⟩ (by simp) rfl).2
        have e7 : f' 7 = .int .u64 x := (hd ⟨7, .data⟩ (by simp) rfl).2
        have e8 : f' 8 = .int .u64 k0 := (hd ⟨8, .data⟩ (by simp) rfl).2
        refine OpStep.of rfl ?_
        unfold Oper.wp
        go_simp
        exact ⟨by simp [upd, e6, e7, e8], Lib.hid (hS.out.upd (by decide))⟩
      · have e9 : f' 9 = .tuple #[.int .u64 s1, .int .u64 k1] := (hd ⟨9, .data⟩ (by simp) rfl).2
        refine OpStep.of rfl ?_
        unfold Oper.wp
        go_simp
        first | exact ⟨by first | (simp [upd, e9]; done) | (simp [upd, e9]; omega), Lib.hid (hS.out.upd (by decide))⟩ | (simp [upd, e9]; done) | (simp [upd, e9]; omega)
      · have e10 : f' 10 = .tuple #[.int .u64 s1, .int .u64 k1] := (hd ⟨10, .data⟩ (by simp) rfl).2
        refine OpStep.of rfl ?_
        unfold Oper.wp
        go_simp
        exact ⟨by simp [upd, e10], Lib.hid (hS.out.upd (by decide))⟩
      · have e10 : f' 10 = .tuple #[.int .u64 s1, .int .u64 k1] := (hd ⟨10, .data⟩ (by simp) rfl).2
        refine OpStep.of rfl ?_
        unfold Oper.wp
        go_simp
        exact ⟨by simp [upd, e10], Lib.hid (hS.out.upd (by decide))⟩
      · have e0 : f' 0 = .pointer (some ⟨B, 0, none⟩) := (hd ⟨0, .data⟩ (by simp) rfl).2
        refine OpStep.of rfl ?_
        unfold Oper.wp
        go_simp
        exact ⟨by simp [upd, e0], Lib.hid (hS.out.upd (by decide))⟩
      · have e1 : f' 1 = .int .i64 1 := (hd ⟨1, .data⟩ (by simp) rfl).2
        have e13 : f' 13 = .pointer (some ⟨B, 0, none⟩) := (hd ⟨13, .data⟩ (by simp) rfl).2
        refine OpStep.of rfl ?_
        unfold Oper.wp
        go_simp
        exact ⟨by simp [upd, e1, e13], Lib.hid (hS.out.upd (by decide))⟩
      · have e11 : f' 11 = .int .u64 s1 := (hd ⟨11, .data⟩ (by simp) rfl).2
        have e14 : f' 14 = .pointer (some ⟨B, 1, none⟩) := (hd ⟨14, .data⟩ (by simp) rfl).2
        refine OpStep.of rfl ?_
        have l15 : lb 15 = false := hl
        have hbx := hS.out.b
        rw [l15] at hbx
        simp only [Bool.false_eq_true, if_false] at hbx
        have hfz : w'.frozen? ⟨B, 1, none⟩ = false := by simp [World.frozen?, hbx, ctBox]
        obtain ⟨z0, z1, z2, -⟩ := res3 hbx
        have h6 := (hd ⟨6, .phase⟩ (by simp) rfl).1
        have hv := ct_setI hbx 1 (.int .u64 s1)
        unfold Oper.wp
        go_simp
        exact ⟨by simp [upd, e11, e14], Lib.hid (hS.out.put h6 hv)⟩
    · intro op ho lb f' w' hd hS
      have e12 : f' 12 = .int .u64 k1 := (hd 12 (by omega)).2
      replace ho := Option.some.inj ho
      subst ho
      refine ⟨rfl, ?_⟩
      unfold Oper.wp
      go_simp
      have l15 := (hd 15 (by omega)).1
      have hb2 := hS.out.b
      rw [l15] at hb2
      simp only [if_true] at hb2
      have HB2 := Lib.hid hS.out.bl
      clear hd hS l15
      obtain ⟨w2, rfl⟩ : ∃ w2, w2 = w' := ⟨_, rfl⟩
      go_wp2_with fail
      rw [rounds_succ]
      go_upto_region 7 with (fail)
      refine wp_region_exact 16 (fun f' => ⟨#[.pointer (some ⟨B, 0, none⟩), .int .i64 n, undef, undef, .int .u64 k1, .int .i64 2, .int .u64 0, .int .i64 2, .bool true, .int .i64 2, .int .i64 n, .int .i64 1, .int .i64 2, .bool false, .int .i64 n, .int .i64 m, .int .u64 x, f' 10, f' 0, f' 1, f' 2, f' 3, f' 4, f' 5, f' 6, f' 7, f' 8, f' 9, f' 11, f' 12, f' 13, f' 14, .int .i64 2], []⟩) (fun i9 => match i9 with | 0 => .pointer (some ⟨B, 0, none⟩) | 1 => .int .i64 2 | 2 => .pointer (some ⟨B, 0, none⟩) | 3 => .int .i64 2 | 4 => .pointer (some ⟨B, 0, none⟩) | 5 => .pointer (some ⟨B, 2, none⟩) | 6 => .int .u64 a2 | 7 => .int .u64 0 | 8 => .int .u64 k1 | 9 => .tuple #[.int .u64 s2, .int .u64 k2] | 10 => .tuple #[.int .u64 s2, .int .u64 k2] | 11 => .int .u64 s2 | 12 => .int .u64 k2 | 13 => .pointer (some ⟨B, 0, none⟩) | 14 => .pointer (some ⟨B, 2, none⟩) | 15 => undef | _ => undef) (fun lb w' => Hid (CtS w2 B (ctBox s0 s1 a2) (ctBox s0 s1 s2) lb w')) (fun i9 => match i9 with | 0 => .pointer (some ⟨B, 0, none⟩) | 1 => .int .i64 1 | 2 => .pointer (some ⟨B, 0, none⟩) | 3 => .int .i64 1 | 4 => .pointer (some ⟨B, 0, none⟩) | 5 => .pointer (some ⟨B, 1, none⟩) | 6 => .int .u64 a1 | 7 => .int .u64 x | 8 => .int .u64 k0 | 9 => .tuple #[.int .u64 s1, .int .u64 k1] | 10 => .tuple #[.int .u64 s1, .int .u64 k1] | 11 => .int .u64 s1 | 12 => .int .u64 k1 | 13 => .pointer (some ⟨B, 0, none⟩) | 14 => .pointer (some ⟨B, 1, none⟩) | _ => undef) 10 (show Tryz.prog.follows .mixedOrders = true from by kernel_rfl) (by kernel_rfl) ?_ ?_ (Lib.hid ⟨by simp, by simpa using hb2, (Below.refl _ _).drew⟩)
      · intro i9 op hi9 ho lb f' w' hl hS hd
        have hcase : i9 = 0 ∨ i9 = 1 ∨ i9 = 2 ∨ i9 = 3 ∨ i9 = 4 ∨ i9 = 5 ∨ i9 = 6 ∨ i9 = 7 ∨ i9 = 8 ∨ i9 = 9 ∨ i9 = 10 ∨ i9 = 11 ∨ i9 = 12 ∨ i9 = 13 ∨ i9 = 14 ∨ i9 = 15 := by omega
        rcases hcase with rfl | rfl | rfl | rfl | rfl | rfl | rfl | rfl | rfl | rfl | rfl | rfl | rfl | rfl | rfl | rfl <;> (replace ho := Option.some.inj ho; subst ho)
        · refine OpStep.of rfl ?_
          unfold Oper.wp
          go_simp
          first | exact ⟨by first | (simp [upd]; done) | (simp [upd]; omega), Lib.hid (hS.out.upd (by decide))⟩ | (simp [upd]; done) | (simp [upd]; omega)
        · refine OpStep.of rfl ?_
          unfold Oper.wp
          go_simp
          first | exact ⟨by first | (simp [upd]; done) | (simp [upd]; omega), Lib.hid (hS.out.upd (by decide))⟩ | (simp [upd]; done) | (simp [upd]; omega)
        · refine OpStep.of rfl ?_
          unfold Oper.wp
          go_simp
          first | exact ⟨by first | (simp [upd]; done) | (simp [upd]; omega), Lib.hid (hS.out.upd (by decide))⟩ | (simp [upd]; done) | (simp [upd]; omega)
        · refine OpStep.of rfl ?_
          unfold Oper.wp
          go_simp
          first | exact ⟨by first | (simp [upd]; done) | (simp [upd]; omega), Lib.hid (hS.out.upd (by decide))⟩ | (simp [upd]; done) | (simp [upd]; omega)
        · have e2 : f' 2 = .pointer (some ⟨B, 0, none⟩) := (hd ⟨2, .data⟩ (by simp) rfl).2
          refine OpStep.of rfl ?_
          unfold Oper.wp
          go_simp
          exact ⟨by simp [upd, e2], Lib.hid (hS.out.upd (by decide))⟩
        · have e3 : f' 3 = .int .i64 2 := (hd ⟨3, .data⟩ (by simp) rfl).2
          have e4 : f' 4 = .pointer (some ⟨B, 0, none⟩) := (hd ⟨4, .data⟩ (by simp) rfl).2
          refine OpStep.of rfl ?_
          unfold Oper.wp
          go_simp
          exact ⟨by simp [upd, e3, e4], Lib.hid (hS.out.upd (by decide))⟩
        · have e5 : f' 5 = .pointer (some ⟨B, 2, none⟩) := (hd ⟨5, .data⟩ (by simp) rfl).2
          refine OpStep.of rfl ?_
          have l15 : lb 15 = false := by
            rcases hh : lb 15 with _ | _
            · rfl
            · exact absurd (hS.out.ld hh) (by rw [hl]; simp)
          have hbx := hS.out.b
          rw [l15] at hbx
          simp only [Bool.false_eq_true, if_false] at hbx
          obtain ⟨z0, z1, z2, -⟩ := res3 hbx
          unfold Oper.wp
          go_simp
          first | exact ⟨by first | (simp [upd, e5]; done) | (simp [upd, e5]; omega), Lib.hid (hS.out.upd (by decide))⟩ | (simp [upd, e5]; done) | (simp [upd, e5]; omega)
        · refine OpStep.of rfl ?_
          unfold Oper.wp
          go_simp
          first | exact ⟨by first | (simp [upd]; done) | (simp [upd]; omega), Lib.hid (hS.out.upd (by decide))⟩ | (simp [upd]; done) | (simp [upd]; omega)
        · refine OpStep.of rfl ?_
          unfold Oper.wp
          go_simp
          first | exact ⟨by first | (simp [upd]; done) | (simp [upd]; omega), Lib.hid (hS.out.upd (by decide))⟩ | (simp [upd]; done) | (simp [upd]; omega)
        · have e6 : f' 6 = .int .u64 a2 := (hd ⟨6, .data⟩ (by simp) rfl).2
          have e7 : f' 7 = .int .u64 0 := (hd ⟨7, .data⟩ (by simp) rfl).2
          have e8 : f' 8 = .int .u64 k1 := (hd ⟨8, .data⟩ (by simp) rfl).2
          refine OpStep.of rfl ?_
          unfold Oper.wp
          go_simp
          exact ⟨by simp [upd, e6, e7, e8], Lib.hid (hS.out.upd (by decide))⟩
        · have e9 : f' 9 = .tuple #[.int .u64 s2, .int .u64 k2] := (hd ⟨9, .data⟩ (by simp) rfl).2
          refine OpStep.of rfl ?_
          unfold Oper.wp
          go_simp
          first | exact ⟨by first | (simp [upd, e9]; done) | (simp [upd, e9]; omega), Lib.hid (hS.out.upd (by decide))⟩ | (simp [upd, e9]; done) | (simp [upd, e9]; omega)
        · have e10 : f' 10 = .tuple #[.int .u64 s2, .int .u64 k2] := (hd ⟨10, .data⟩ (by simp) rfl).2
          refine OpStep.of rfl ?_
          unfold Oper.wp
          go_simp
          exact ⟨by simp [upd, e10], Lib.hid (hS.out.upd (by decide))⟩
        · have e10 : f' 10 = .tuple #[.int .u64 s2, .int .u64 k2] := (hd ⟨10, .data⟩ (by simp) rfl).2
          refine OpStep.of rfl ?_
          unfold Oper.wp
          go_simp
          exact ⟨by simp [upd, e10], Lib.hid (hS.out.upd (by decide))⟩
        · have e0 : f' 0 = .pointer (some ⟨B, 0, none⟩) := (hd ⟨0, .data⟩ (by simp) rfl).2
          refine OpStep.of rfl ?_
          unfold Oper.wp
          go_simp
          exact ⟨by simp [upd, e0], Lib.hid (hS.out.upd (by decide))⟩
        · have e1 : f' 1 = .int .i64 2 := (hd ⟨1, .data⟩ (by simp) rfl).2
          have e13 : f' 13 = .pointer (some ⟨B, 0, none⟩) := (hd ⟨13, .data⟩ (by simp) rfl).2
          refine OpStep.of rfl ?_
          unfold Oper.wp
          go_simp
          exact ⟨by simp [upd, e1, e13], Lib.hid (hS.out.upd (by decide))⟩
        · have e11 : f' 11 = .int .u64 s2 := (hd ⟨11, .data⟩ (by simp) rfl).2
          have e14 : f' 14 = .pointer (some ⟨B, 2, none⟩) := (hd ⟨14, .data⟩ (by simp) rfl).2
          refine OpStep.of rfl ?_
          have l15 : lb 15 = false := hl
          have hbx := hS.out.b
          rw [l15] at hbx
          simp only [Bool.false_eq_true, if_false] at hbx
          have hfz : w'.frozen? ⟨B, 2, none⟩ = false := by simp [World.frozen?, hbx, ctBox]
          obtain ⟨z0, z1, z2, -⟩ := res3 hbx
          have h6 := (hd ⟨6, .phase⟩ (by simp) rfl).1
          have hv := ct_setI hbx 2 (.int .u64 s2)
          unfold Oper.wp
          go_simp
          exact ⟨by simp [upd, e11, e14], Lib.hid (hS.out.put h6 hv)⟩
      · intro op ho lb f' w' hd hS
        have e12 : f' 12 = .int .u64 k2 := (hd 12 (by omega)).2
        replace ho := Option.some.inj ho
        subst ho
        refine ⟨rfl, ?_⟩
        unfold Oper.wp
        go_simp
        have l15 := (hd 15 (by omega)).1
        have hb3 := hS.out.b
        rw [l15] at hb3
        simp only [if_true] at hb3
        have HB3 := Lib.hid hS.out.bl
        clear hd hS l15
        obtain ⟨w3, rfl⟩ : ∃ w3, w3 = w' := ⟨_, rfl⟩
        go_wp2_with fail
        first | rw [rounds_succ] | skip
        go_wp2_with fail
        go_end0
        exact ⟨rfl, hb3, (HB1.out.trans HB2.out).trans HB3.out⟩
set_option maxRecDepth 100000 in
set_option maxHeartbeats 1000000 in
theorem add_q2 (a0 a1 a2 m n x s0 k0 s1 k1 s2 k2 : Nat) (B : Nat) (w : World) (hm : m < 64)
    (hb : w.heap[B]? = some (ctBox a0 a1 a2)) (hq : (n : Int) / 64 = 2) (hr : (n : Int) % 64 = (m : Int)) (hx : IntKind.u64.wrap (2 ^ m) = (x : Int))
    (had0 : ∀ W, (callFunc 104 #[.int .u64 a0, .int .u64 0, .int .u64 0]).run Tryz.prog W = .ok (.value (.tuple #[.int .u64 s0, .int .u64 k0])) W)
    (had1 : ∀ W, (callFunc 104 #[.int .u64 a1, .int .u64 0, .int .u64 k0]).run Tryz.prog W = .ok (.value (.tuple #[.int .u64 s1, .int .u64 k1])) W)
    (had2 : ∀ W, (callFunc 104 #[.int .u64 a2, .int .u64 x, .int .u64 k1]).run Tryz.prog W = .ok (.value (.tuple #[.int .u64 s2, .int .u64 k2])) W) :
    Calls Tryz.prog 82 #[.pointer (some ⟨B, 0, none⟩), .int .i64 n] w fun e w' => e = .returned (.tuple #[]) ∧ w'.heap[B]? = some (ctBox s0 s1 s2) ∧ Below B w w' := by
  go_enter Tryz.func82, Tryz.ntmps82
  go_wp2_with fail
  refine wp_loop_rounds 4 ?_
  rw [rounds_succ]
  go_upto_region 7 with (fail)
  have hbB : B < w.heap.size := lt_of_block hb
  refine wp_region_exact 16 (fun f' => ⟨#[.pointer (some ⟨B, 0, none⟩), .int .i64 n, undef, undef, .int .u64 0, .int .i64 0, .int .u64 0, .int .i64 0, .bool true, .int .i64 0, .int .i64 n, .int .i64 2, .int .i64 0, .bool false, undef, undef, undef, f' 10, f' 0, f' 1, f' 2, f' 3, f' 4, f' 5, f' 6, f' 7, f' 8, f' 9, f' 11, f' 12, f' 13, f' 14, undef], []⟩) (fun i9 => match i9 with | 0 => .pointer (some ⟨B, 0, none⟩) | 1 => .int .i64 0 | 2 => .pointer (some ⟨B, 0, none⟩) | 3 => .int .i64 0 | 4 => .pointer (some ⟨B, 0, none⟩) | 5 => .pointer (some ⟨B, 0, none⟩) | 6 => .int .u64 a0 | 7 => .int .u64 0 | 8 => .int .u64 0 | 9 => .tuple #[.int .u64 s0, .int .u64 k0] | 10 => .tuple #[.int .u64 s0, .int .u64 k0] | 11 => .int .u64 s0 | 12 => .int .u64 k0 | 13 => .pointer (some ⟨B, 0, none⟩) | 14 => .pointer (some ⟨B, 0, none⟩) | 15 => undef | _ => undef) (fun lb w' => Hid (CtS w B (ctBox a0 a1 a2) (ctBox s0 a1 a2) lb w')) (fun _ => undef) 10 (show Tryz.prog.follows .mixedOrders = true from by kernel_rfl) (by kernel_rfl) ?_ ?_ (Lib.hid ⟨by simp, by simpa using hb, (Below.refl _ _).drew⟩)
  · intro i9 op hi9 ho lb f' w' hl hS hd
    have hcase : i9 = 0 ∨ i9 = 1 ∨ i9 = 2 ∨ i9 = 3 ∨ i9 = 4 ∨ i9 = 5 ∨ i9 = 6 ∨ i9 = 7 ∨ i9 = 8 ∨ i9 = 9 ∨ i9 = 10 ∨ i9 = 11 ∨ i9 = 12 ∨ i9 = 13 ∨ i9 = 14 ∨ i9 = 15 := by omega
    rcases hcase with rfl | rfl | rfl | rfl | rfl | rfl | rfl | rfl | rfl | rfl | rfl | rfl | rfl | rfl | rfl | rfl <;> (replace ho := Option.some.inj ho; subst ho)
    · refine OpStep.of rfl ?_
      unfold Oper.wp
      go_simp
      first | exact ⟨by first | (simp [upd]; done) | (simp [upd]; omega), Lib.hid (hS.out.upd (by decide))⟩ | (simp [upd]; done) | (simp [upd]; omega)
    · refine OpStep.of rfl ?_
      unfold Oper.wp
      go_simp
      first | exact ⟨by first | (simp [upd]; done) | (simp [upd]; omega), Lib.hid (hS.out.upd (by decide))⟩ | (simp [upd]; done) | (simp [upd]; omega)
    · refine OpStep.of rfl ?_
      unfold Oper.wp
      go_simp
      first | exact ⟨by first | (simp [upd]; done) | (simp [upd]; omega), Lib.hid (hS.out.upd (by decide))⟩ | (simp [upd]; done) | (simp [upd]; omega)
    · refine OpStep.of rfl ?_
      unfold Oper.wp
      go_simp
      first | exact ⟨by first | (simp [upd]; done) | (simp [upd]; omega), Lib.hid (hS.out.upd (by decide))⟩ | (simp [upd]; done) | (simp [upd]; omega)
    · have e2 : f' 2 = .pointer (some ⟨B, 0, none⟩) := (hd ⟨2, .data⟩ (by simp) rfl).2
      refine OpStep.of rfl ?_
      unfold Oper.wp
      go_simp
      exact ⟨by simp [upd, e2], Lib.hid (hS.out.upd (by decide))⟩
    · have e3 : f' 3 = .int .i64 0 := (hd ⟨3, .data⟩ (by simp) rfl).2
      have e4 : f' 4 = .pointer (some ⟨B, 0, none⟩) := (hd ⟨4, .data⟩ (by simp) rfl).2
      refine OpStep.of rfl ?_
      unfold Oper.wp
      go_simp
      exact ⟨by simp [upd, e3, e4], Lib.hid (hS.out.upd (by decide))⟩
    · have e5 : f' 5 = .pointer (some ⟨B, 0, none⟩) := (hd ⟨5, .data⟩ (by simp) rfl).2
      refine OpStep.of rfl ?_
      have l15 : lb 15 = false := by
        rcases hh : lb 15 with _ | _
        · rfl
        · exact absurd (hS.out.ld hh) (by rw [hl]; simp)
      have hbx := hS.out.b
      rw [l15] at hbx
      simp only [Bool.false_eq_true, if_false] at hbx
      obtain ⟨z0, z1, z2, -⟩ := res3 hbx
      unfold Oper.wp
      go_simp
      first | exact ⟨by first | (simp [upd, e5]; done) | (simp [upd, e5]; omega), Lib.hid (hS.out.upd (by decide))⟩ | (simp [upd, e5]; done) | (simp [upd, e5]; omega)
    · refine OpStep.of rfl ?_
      unfold Oper.wp
      go_simp
      first | exact ⟨by first | (simp [upd]; done) | (simp [upd]; omega), Lib.hid (hS.out.upd (by decide))⟩ | (simp [upd]; done) | (simp [upd]; omega)
    · refine OpStep.of rfl ?_
      unfold Oper.wp
      go_simp
      first | exact ⟨by first | (simp [upd]; done) | (simp [upd]; omega), Lib.hid (hS.out.upd (by decide))⟩ | (simp [upd]; done) | (simp [upd]; omega)
    · have e6 : f' 6 = .int .u64 a0 := (hd ⟨6, .data⟩ (by simp) rfl).2
      have e7 : f' 7 = .int .u64 0 := (hd ⟨7, .data⟩ (by simp) rfl).2
      have e8 : f' 8 = .int .u64 0 := (hd ⟨8, .data⟩ (by simp) rfl).2
      refine OpStep.of rfl ?_
      unfold Oper.wp
      go_simp
      exact ⟨by simp [upd, e6, e7, e8], Lib.hid (hS.out.upd (by decide))⟩
    · have e9 : f' 9 = .tuple #[.int .u64 s0, .int .u64 k0] := (hd ⟨9, .data⟩ (by simp) rfl).2
      refine OpStep.of rfl ?_
      unfold Oper.wp
      go_simp
      first | exact ⟨by first | (simp [upd, e9]; done) | (simp [upd, e9]; omega), Lib.hid (hS.out.upd (by decide))⟩ | (simp [upd, e9]; done) | (simp [upd, e9]; omega)
    · have e10 : f' 10 = .tuple #[.int .u64 s0, .int .u64 k0] := (hd ⟨10, .data⟩ (by simp) rfl).2
      refine OpStep.of rfl ?_
      unfold Oper.wp
      go_simp
      exact ⟨by simp [upd, e10], Lib.hid (hS.out.upd (by decide))⟩
    · have e10 : f' 10 = .tuple #[.int .u64 s0, .int .u64 k0] := (hd ⟨10, .data⟩ (by simp) rfl).2
      refine OpStep.of rfl ?_
      unfold Oper.wp
      go_simp
      exact ⟨by simp [upd, e10], Lib.hid (hS.out.upd (by decide))⟩
    · have e0 : f' 0 = .pointer (some ⟨B, 0, none⟩) := (hd ⟨0, .data⟩ (by simp) rfl).2
      refine OpStep.of rfl ?_
      unfold Oper.wp
      go_simp
      exact ⟨by simp [upd, e0], Lib.hid (hS.out.upd (by decide))⟩
    · have e1 : f' 1 = .int .i64 0 := (hd ⟨1, .data⟩ (by simp) rfl).2
      have e13 : f' 13 = .pointer (some ⟨B, 0, none⟩) := (hd ⟨13, .data⟩ (by simp) rfl).2
      refine OpStep.of rfl ?_
      unfold Oper.wp
      go_simp
      exact ⟨by simp [upd, e1, e13], Lib.hid (hS.out.upd (by decide))⟩
    · have e11 : f' 11 = .int .u64 s0 := (hd ⟨11, .data⟩ (by simp) rfl).2
      have e14 : f' 14 = .pointer (some ⟨B, 0, none⟩) := (hd ⟨14, .data⟩ (by simp) rfl).2
      refine OpStep.of rfl ?_
      have l15 : lb 15 = false := hl
      have hbx := hS.out.b
      rw [l15] at hbx
      simp only [Bool.false_eq_true, if_false] at hbx
      have hfz : w'.frozen? ⟨B, 0, none⟩ = false := by simp [World.frozen?, hbx, ctBox]
      obtain ⟨z0, z1, z2, -⟩ := res3 hbx
      have h6 := (hd ⟨6, .phase⟩ (by simp) rfl).1
      have hv := ct_setI hbx 0 (.int .u64 s0)
      unfold Oper.wp
      go_simp
      exact ⟨by simp [upd, e11, e14], Lib.hid (hS.out.put h6 hv)⟩
  · intro op ho lb f' w' hd hS
    have e12 : f' 12 = .int .u64 k0 := (hd 12 (by omega)).2
    replace ho := Option.some.inj ho
    subst ho
    refine ⟨rfl, ?_⟩
    unfold Oper.wp
    go_simp
    have l15 := (hd 15 (by omega)).1
    have hb1 := hS.out.b
    rw [l15] at hb1
    simp only [if_true] at hb1
    have HB1 := Lib.hid hS.out.bl
    clear hd hS l15
    obtain ⟨w1, rfl⟩ : ∃ w1, w1 = w' := ⟨_, rfl⟩
    go_wp2_with fail
    rw [rounds_succ]
    go_upto_region 7 with (fail)
    refine wp_region_exact 16 (fun f' => ⟨#[.pointer (some ⟨B, 0, none⟩), .int .i64 n, undef, undef, .int .u64 k0, .int .i64 1, .int .u64 0, .int .i64 1, .bool true, .int .i64 1, .int .i64 n, .int .i64 2, .int .i64 1, .bool false, undef, undef, undef, f' 10, f' 0, f' 1, f' 2, f' 3, f' 4, f' 5, f' 6, f' 7, f' 8, f' 9, f' 11, f' 12, f' 13, f' 14, .int .i64 1], []⟩) (fun i9 => match i9 with | 0 => .pointer (some ⟨B, 0, none⟩) | 1 => .int .i64 1 | 2 => .pointer (some ⟨B, 0, none⟩) | 3 => .int .i64 1 | 4 => .pointer (some ⟨B, 0, none⟩) | 5 => .pointer (some ⟨B, 1, none⟩) | 6 => .int .u64 a1 | 7 => .int .u64 0 | 8 => .int .u64 k0 | 9 => .tuple #[.int .u64 s1, .int .u64 k1] | 10 => .tuple #[.int .u64 s1, .int .u64 k1] | 11 => .int .u64 s1 | 12 => .int .u64 k1 | 13 => .pointer (some ⟨B, 0, none⟩) | 14 => .pointer (some ⟨B, 1, none⟩) | 15 => undef | _ => undef) (fun lb w' => Hid (CtS w1 B (ctBox s0 a1 a2) (ctBox s0 s1 a2) lb w')) (fun i9 => match i9 with | 0 => .pointer (some ⟨B, 0, none⟩) | 1 => .int .i64 0 | 2 => .pointer (some ⟨B, 0, none⟩) | 3 => .int .i64 0 | 4 => .pointer (some ⟨B, 0, none⟩) | 5 => .pointer (some ⟨B, 0, none⟩) | 6 => .int .u64 a0 | 7 => .int .u64 0 | 8 => .int .u64 0 | 9 => .tuple #[.int .u64 s0, .int .u64 k0] | 10 => .tuple #[.int .u64 s0, .int .u64 k0] | 11 => .int .u64 s0 | 12 => .int .u64 k0 | 13 => .pointer (some ⟨B, 0, none⟩) | 14 => .pointer (some ⟨B, 0, none⟩) | _ => undef) 10 (show Tryz.prog.follows .mixedOrders = true from by kernel_rfl) (by kernel_rfl) ?_ ?_ (Lib.hid ⟨by simp, by simpa using hb1, (Below.refl _ _).drew⟩)
    · intro i9 op hi9 ho lb f' w' hl hS hd
      have hcase : i9 = 0 ∨ i9 = 1 ∨ i9 = 2 ∨ i9 = 3 ∨ i9 = 4 ∨ i9 = 5 ∨ i9 = 6 ∨ i9 = 7 ∨ i9 = 8 ∨ i9 = 9 ∨ i9 = 10 ∨ i9 = 11 ∨ i9 = 12 ∨ i9 = 13 ∨ i9 = 14 ∨ i9 = 15 := by omega
      rcases hcase with rfl | rfl | rfl | rfl | rfl | rfl | rfl | rfl | rfl | rfl | rfl | rfl | rfl | rfl | rfl | rfl <;> (replace ho := Option.some.inj ho; subst ho)
      · refine OpStep.of rfl ?_
        unfold Oper.wp
        go_simp
        first | exact ⟨by first | (simp [upd]; done) | (simp [upd]; omega), Lib.hid (hS.out.upd (by decide))⟩ | (simp [upd]; done) | (simp [upd]; omega)
      · refine OpStep.of rfl ?_
        unfold Oper.wp
        go_simp
        first | exact ⟨by first | (simp [upd]; done) | (simp [upd]; omega), Lib.hid (hS.out.upd (by decide))⟩ | (simp [upd]; done) | (simp [upd]; omega)
      · refine OpStep.of rfl ?_
        unfold Oper.wp
        go_simp
        first | exact ⟨by first | (simp [upd]; done) | (simp [upd]; omega), Lib.hid (hS.out.upd (by decide))⟩ | (simp [upd]; done) | (simp [upd]; omega)
      · refine OpStep.of rfl ?_
        unfold Oper.wp
        go_simp
        first | exact ⟨by first | (simp [upd]; done) | (simp [upd]; omega), Lib.hid (hS.out.upd (by decide))⟩ | (simp [upd]; done) | (simp [upd]; omega)
      · have e2 : f' 2 = .pointer (some ⟨B, 0, none⟩) := (hd ⟨2, .data⟩ (by simp) rfl).2
        refine OpStep.of rfl ?_
        unfold Oper.wp
        go_simp
        exact ⟨by simp [upd, e2], Lib.hid (hS.out.upd (by decide))⟩
      · have e3 : f' 3 = .int .i64 1 := (hd ⟨3, .data⟩ (by simp) rfl).2
        have e4 : f' 4 = .pointer (some ⟨B, 0, none⟩) := (hd ⟨4, .data⟩ (by simp) rfl).2
        refine OpStep.of rfl ?_
        unfold Oper.wp
        go_simp
        exact ⟨by simp [upd, e3, e4], Lib.hid (hS.out.upd (by decide))⟩
      · have e5 : f' 5 = .pointer (some ⟨B, 1, none⟩) := (hd ⟨5, .data⟩ (by simp) rfl).2
        refine OpStep.of rfl ?_
        have l15 : lb 15 = false := by
          rcases hh : lb 15 with _ | _
          · rfl
          · exact absurd (hS.out.ld hh) (by rw [hl]; simp)
        have hbx := hS.out.b
        rw [l15] at hbx
        simp only [Bool.false_eq_true, if_false] at hbx
        obtain ⟨z0, z1, z2, -⟩ := res3 hbx
        unfold Oper.wp
        go_simp
        first | exact ⟨by first | (simp [upd, e5]; done) | (simp [upd, e5]; omega), Lib.hid (hS.out.upd (by decide))⟩ | (simp [upd, e5]; done) | (simp [upd, e5]; omega)
      · refine OpStep.of rfl ?_
        unfold Oper.wp
        go_simp
        first | exact ⟨by first | (simp [upd]; done) | (simp [upd]; omega), Lib.hid (hS.out.upd (by decide))⟩ | (simp [upd]; done) | (simp [upd]; omega)
      · refine OpStep.of rfl ?_
        unfold Oper.wp
        go_simp
        first | exact ⟨by first | (simp [upd]; done) | (simp [upd]; omega), Lib.hid (hS.out.upd (by decide))⟩ | (simp [upd]; done) | (simp [upd]; omega)
      · have e6 : f' 6 = .int .u64 a1 := (hd ⟨6, .data⟩ (by simp) rfl).2
        have e7 : f' 7 = .int .u64 0 := (hd ⟨7, .data⟩ (by simp) rfl).2
        have e8 : f' 8 = .int .u64 k0 := (hd ⟨8, .data⟩ (by simp) rfl).2
        refine OpStep.of rfl ?_
        unfold Oper.wp
        go_simp
        exact ⟨by simp [upd, e6, e7, e8], Lib.hid (hS.out.upd (by decide))⟩
      · have e9 : f' 9 = .tuple #[.int .u64 s1, .int .u64 k1] := (hd ⟨9, .data⟩ (by simp) rfl).2
        refine OpStep.of rfl ?_
        unfold Oper.wp
        go_simp
        first | exact ⟨by first | (simp [upd, e9]; done) | (simp [upd, e9]; omega), Lib.hid (hS.out.upd (by decide))⟩ | (simp [upd, e9]; done) | (simp [upd, e9]; omega)
      · have e10 : f' 10 = .tuple #[.int .u64 s1, .int .u64 k1] := (hd ⟨10, .data⟩ (by simp) rfl).2
        refine OpStep.of rfl ?_
        unfold Oper.wp
        go_simp
        exact ⟨by simp [upd, e10], Lib.hid (hS.out.upd (by decide))⟩
      · have e10 : f' 10 = .tuple #[.int .u64 s1, .int .u64 k1] := (hd ⟨10, .data⟩ (by simp) rfl).2
        refine OpStep.of rfl ?_
        unfold Oper.wp
        go_simp
        exact ⟨by simp [upd, e10], Lib.hid (hS.out.upd (by decide))⟩
      · have e0 : f' 0 = .pointer (some ⟨B, 0, none⟩) := (hd ⟨0, .data⟩ (by simp) rfl).2
        refine OpStep.of rfl ?_
        unfold Oper.wp
        go_simp
        exact ⟨by simp [upd, e0], Lib.hid (hS.out.upd (by decide))⟩
      · have e1 : f' 1 = .int .i64 1 := (hd ⟨1, .data⟩ (by simp) rfl).2
        have e13 : f' 13 = .pointer (some ⟨B, 0, none⟩) := (hd ⟨13, .data⟩ (by simp) rfl).2
        refine OpStep.of rfl ?_
        unfold Oper.wp
        go_simp
        exact ⟨by simp [upd, e1, e13], Lib.hid (hS.out.upd (by decide))⟩
      · have e11 : f' 11 = .int .u64 s1 := (hd ⟨11, .data⟩ (by simp) rfl).2
        have e14 : f' 14 = .pointer (some ⟨B, 1, none⟩) := (hd ⟨14, .data⟩ (by simp) rfl).2
        refine OpStep.of rfl ?_
        have l15 : lb 15 = false := hl
        have hbx := hS.out.b
        rw [l15] at hbx
        simp only [Bool.false_eq_true, if_false] at hbx
        have hfz : w'.frozen? ⟨B, 1, none⟩ = false := by simp [World.frozen?, hbx, ctBox]
        obtain ⟨z0, z1, z2, -⟩ := res3 hbx
        have h6 := (hd ⟨6, .phase⟩ (by simp) rfl).1
        have hv := ct_setI hbx 1 (.int .u64 s1)
        unfold Oper.wp
        go_simp
        exact ⟨by simp [upd, e11, e14], Lib.hid (hS.out.put h6 hv)⟩
    · intro op ho lb f' w' hd hS
      have e12 : f' 12 = .int .u64 k1 := (hd 12 (by omega)).2
      replace ho := Option.some.inj ho
      subst ho
      refine ⟨rfl, ?_⟩
      unfold Oper.wp
      go_simp
      have l15 := (hd 15 (by omega)).1
      have hb2 := hS.out.b
      rw [l15] at hb2
      simp only [if_true] at hb2
      have HB2 := Lib.hid hS.out.bl
      clear hd hS l15
      obtain ⟨w2, rfl⟩ : ∃ w2, w2 = w' := ⟨_, rfl⟩
      go_wp2_with fail
      rw [rounds_succ]
      go_upto_region 7 with (fail)
      refine wp_region_exact 16 (fun f' => ⟨#[.pointer (some ⟨B, 0, none⟩), .int .i64 n, undef, undef, .int .u64 k1, .int .i64 2, .int .u64 x, .int .i64 2, .bool true, .int .i64 2, .int .i64 n, .int .i64 2, .int .i64 2, .bool true, .int .i64 n, .int .i64 ((n : Int) % 64), .int .u64 x, f' 10, f' 0, f' 1, f' 2, f' 3, f' 4, f' 5, f' 6, f' 7, f' 8, f' 9, f' 11, f' 12, f' 13, f' 14, .int .i64 2], []⟩) (fun i9 => match i9 with | 0 => .pointer (some ⟨B, 0, none⟩) | 1 => .int .i64 2 | 2 => .pointer (some ⟨B, 0, none⟩) | 3 => .int .i64 2 | 4 => .pointer (some ⟨B, 0, none⟩) | 5 => .pointer (some ⟨B, 2, none⟩) | 6 => .int .u64 a2 | 7 => .int .u64 x | 8 => .int .u64 k1 | 9 => .tuple #[.int .u64 s2, .int .u64 k2] | 10 => .tuple #[.int .u64 s2, .int .u64 k2] | 11 => .int .u64 s2 | 12 => .int .u64 k2 | 13 => .pointer (some ⟨B, 0, none⟩) | 14 => .pointer (some ⟨B, 2, none⟩) | 15 => undef | _ => undef) (fun lb w' => Hid (CtS w2 B (ctBox s0 s1 a2) (ctBox s0 s1 s2) lb w')) (fun i9 => match i9 with | 0 => .pointer (some ⟨B, 0, none⟩) | 1 => .int .i64 1 | 2 => .pointer (some ⟨B, 0, none⟩) | 3 => .int .i64 1 | 4 => .pointer (some ⟨B, 0, none⟩) | 5 => .pointer (some ⟨B, 1, none⟩) | 6 => .int .u64 a1 | 7 => .int .u64 0 | 8 => .int .u64 k0 | 9 => .tuple #[.int .u64 s1, .int .u64 k1] | 10 => .tuple #[.int .u64 s1, .int .u64 k1] | 11 => .int .u64 s1 | 12 => .int .u64 k1 | 13 => .pointer (some ⟨B, 0, none⟩) | 14 => .pointer (some ⟨B, 1, none⟩) | _ => undef) 10 (show Tryz.prog.follows .mixedOrders = true from by kernel_rfl) (by kernel_rfl) ?_ ?_ (Lib.hid ⟨by simp, by simpa using hb2, (Below.refl _ _).drew⟩)
      · intro i9 op hi9 ho lb f' w' hl hS hd
        have hcase : i9 = 0 ∨ i9 = 1 ∨ i9 = 2 ∨ i9 = 3 ∨ i9 = 4 ∨ i9 = 5 ∨ i9 = 6 ∨ i9 = 7 ∨ i9 = 8 ∨ i9 = 9 ∨ i9 = 10 ∨ i9 = 11 ∨ i9 = 12 ∨ i9 = 13 ∨ i9 = 14 ∨ i9 = 15 := by omega
        rcases hcase with rfl | rfl | rfl | rfl | rfl | rfl | rfl | rfl | rfl | rfl | rfl | rfl | rfl | rfl | rfl | rfl <;> (replace ho := Option.some.inj ho; subst ho)
        · refine OpStep.of rfl ?_
          unfold Oper.wp
          go_simp
          first | exact ⟨by first | (simp [upd]; done) | (simp [upd]; omega), Lib.hid (hS.out.upd (by decide))⟩ | (simp [upd]; done) | (simp [upd]; omega)
        · refine OpStep.of rfl ?_
          unfold Oper.wp
          go_simp
          first | exact ⟨by first | (simp [upd]; done) | (simp [upd]; omega), Lib.hid (hS.out.upd (by decide))⟩ | (simp [upd]; done) | (simp [upd]; omega)
        · refine OpStep.of rfl ?_
          unfold Oper.wp
          go_simp
          first | exact ⟨by first | (simp [upd]; done) | (simp [upd]; omega), Lib.hid (hS.out.upd (by decide))⟩ | (simp [upd]; done) | (simp [upd]; omega)
        · refine OpStep.of rfl ?_
          unfold Oper.wp
          go_simp
          first | exact ⟨by first | (simp [upd]; done) | (simp [upd]; omega), Lib.hid (hS.out.upd (by decide))⟩ | (simp [upd]; done) | (simp [upd]; omega)
        · have e2 : f' 2 = .pointer (some ⟨B, 0, none⟩) := (hd ⟨2, .data⟩ (by simp) rfl).2
          refine OpStep.of rfl ?_
          unfold Oper.wp
          go_simp
          exact ⟨by simp [upd, e2], Lib.hid (hS.out.upd (by decide))⟩
        · have e3 : f' 3 = .int .i64 2 := (hd ⟨3, .data⟩ (by simp) rfl).2
          have e4 : f' 4 = .pointer (some ⟨B, 0, none⟩) := (hd ⟨4, .data⟩ (by simp) rfl).2
          refine OpStep.of rfl ?_
          unfold Oper.wp
          go_simp
          exact ⟨by simp [upd, e3, e4], Lib.hid (hS.out.upd (by decide))⟩
        · have e5 : f' 5 = .pointer (some ⟨B, 2, none⟩) := (hd ⟨5, .data⟩ (by simp) rfl).2
          refine OpStep.of rfl ?_
          have l15 : lb 15 = false := by
            rcases hh : lb 15 with _ | _
            · rfl
            · exact absurd (hS.out.ld hh) (by rw [hl]; simp)
          have hbx := hS.out.b
          rw [l15] at hbx
          simp only [Bool.false_eq_true, if_false] at hbx
          obtain ⟨z0, z1, z2, -⟩ := res3 hbx
          unfold Oper.wp
          go_simp
          first | exact ⟨by first | (simp [upd, e5]; done) | (simp [upd, e5]; omega), Lib.hid (hS.out.upd (by decide))⟩ | (simp [upd, e5]; done) | (simp [upd, e5]; omega)
        · refine OpStep.of rfl ?_
          unfold Oper.wp
          go_simp
          first | exact ⟨by first | (simp [upd]; done) | (simp [upd]; omega), Lib.hid (hS.out.upd (by decide))⟩ | (simp [upd]; done) | (simp [upd]; omega)
        · refine OpStep.of rfl ?_
          unfold Oper.wp
          go_simp
          first | exact ⟨by first | (simp [upd]; done) | (simp [upd]; omega), Lib.hid (hS.out.upd (by decide))⟩ | (simp [upd]; done) | (simp [upd]; omega)
        · have e6 : f' 6 = .int .u64 a2 := (hd ⟨6, .data⟩ (by simp) rfl).2
          have e7 : f' 7 = .int .u64 x := (hd ⟨7, .data⟩ (by simp) rfl).2
          have e8 : f' 8 = .int .u64 k1 := (hd ⟨8, .data⟩ (by simp) rfl).2
          refine OpStep.of rfl ?_
          unfold Oper.wp
          go_simp
          exact ⟨by simp [upd, e6, e7, e8], Lib.hid (hS.out.upd (by decide))⟩
        · have e9 : f' 9 = .tuple #[.int .u64 s2, .int .u64 k2] := (hd ⟨9, .data⟩ (by simp) rfl).2
          refine OpStep.of rfl ?_
          unfold Oper.wp
          go_simp
          first | exact ⟨by first | (simp [upd, e9]; done) | (simp [upd, e9]; omega), Lib.hid (hS.out.upd (by decide))⟩ | (simp [upd, e9]; done) | (simp [upd, e9]; omega)
        · have e10 : f' 10 = .tuple #[.int .u64 s2, .int .u64 k2] := (hd ⟨10, .data⟩ (by simp) rfl).2
          refine OpStep.of rfl ?_
          unfold Oper.wp
          go_simp
          exact ⟨by simp [upd, e10], Lib.hid (hS.out.upd (by decide))⟩
        · have e10 : f' 10 = .tuple #[.int .u64 s2, .int .u64 k2] := (hd ⟨10, .data⟩ (by simp) rfl).2
          refine OpStep.of rfl ?_
          unfold Oper.wp
          go_simp
          exact ⟨by simp [upd, e10], Lib.hid (hS.out.upd (by decide))⟩
        · have e0 : f' 0 = .pointer (some ⟨B, 0, none⟩) := (hd ⟨0, .data⟩ (by simp) rfl).2
          refine OpStep.of rfl ?_
          unfold Oper.wp
          go_simp
          exact ⟨by simp [upd, e0], Lib.hid (hS.out.upd (by decide))⟩
        · have e1 : f' 1 = .int .i64 2 := (hd ⟨1, .data⟩ (by simp) rfl).2
          have e13 : f' 13 = .pointer (some ⟨B, 0, none⟩) := (hd ⟨13, .data⟩ (by simp) rfl).2
          refine OpStep.of rfl ?_
          unfold Oper.wp
          go_simp
          exact ⟨by simp [upd, e1, e13], Lib.hid (hS.out.upd (by decide))⟩
        · have e11 : f' 11 = .int .u64 s2 := (hd ⟨11, .data⟩ (by simp) rfl).2
          have e14 : f' 14 = .pointer (some ⟨B, 2, none⟩) := (hd ⟨14, .data⟩ (by simp) rfl).2
          refine OpStep.of rfl ?_
          have l15 : lb 15 = false := hl
          have hbx := hS.out.b
          rw [l15] at hbx
          simp only [Bool.false_eq_true, if_false] at hbx
          have hfz : w'.frozen? ⟨B, 2, none⟩ = false := by simp [World.frozen?, hbx, ctBox]
          obtain ⟨z0, z1, z2, -⟩ := res3 hbx
          have h6 := (hd ⟨6, .phase⟩ (by simp) rfl).1
          have hv := ct_setI hbx 2 (.int .u64 s2)
          unfold Oper.wp
          go_simp
          exact ⟨by simp [upd, e11, e14], Lib.hid (hS.out.put h6 hv)⟩
      · intro op ho lb f' w' hd hS
        have e12 : f' 12 = .int .u64 k2 := (hd 12 (by omega)).2
        replace ho := Option.some.inj ho
        subst ho
        refine ⟨rfl, ?_⟩
        unfold Oper.wp
        go_simp
        have l15 := (hd 15 (by omega)).1
        have hb3 := hS.out.b
        rw [l15] at hb3
        simp only [if_true] at hb3
        have HB3 := Lib.hid hS.out.bl
        clear hd hS l15
        obtain ⟨w3, rfl⟩ : ∃ w3, w3 = w' := ⟨_, rfl⟩
        go_wp2_with fail
        first | rw [rounds_succ] | skip
        go_wp2_with fail
        go_end0
        exact ⟨rfl, hb3, (HB1.out.trans HB2.out).trans HB3.out⟩
-- END RA
/-- The three words of a number. -/
def ctW (N : Nat) : Obj := ctBox (wdOf N 0) (wdOf N 1) (wdOf N 2)
theorem p64_0 : 18446744073709551616 ^ 0 = 1 := by decide
theorem p64_1 : 18446744073709551616 ^ 1 = 18446744073709551616 := by decide
theorem p64_2 : 18446744073709551616 ^ 2 = 340282366920938463463374607431768211456 := by decide
theorem add_words {N M a0 a1 a2 x0 x1 x2 s0 s1 s2 k0 k1 k2 : Nat} (e0 : s0 + 18446744073709551616 * k0 = a0 + x0 + 0) (e1 : s1 + 18446744073709551616 * k1 = a1 + x1 + k0) (e2 : s2 + 18446744073709551616 * k2 = a2 + x2 + k1)
    (b0 : s0 < 18446744073709551616) (b1 : s1 < 18446744073709551616) (b2 : s2 < 18446744073709551616)
    (hN : N = a0 + 18446744073709551616 * a1 + 340282366920938463463374607431768211456 * a2) (hM : M = N + (x0 + 18446744073709551616 * x1 + 340282366920938463463374607431768211456 * x2)) :
    s0 = wdOf M 0 ∧ s1 = wdOf M 1 ∧ s2 = wdOf M 2 := by
  unfold wdOf
  rw [p64_0, p64_1, p64_2]
  omega
theorem wd_all (N : Nat) (h : N < 6277101735386680763835789423207666416102355444464034512896) : N = wdOf N 0 + 18446744073709551616 * wdOf N 1 + 340282366920938463463374607431768211456 * wdOf N 2 := by
  unfold wdOf
  rw [p64_0, p64_1, p64_2]
  omega
theorem add64_at (x y c : Nat) (hx : x < 18446744073709551616) (hy : y < 18446744073709551616) (hc : c ≤ 1) {v u : Value} (hv : v = .int .u64 y) (hu : u = .int .u64 c) (w : World) :
    (callFunc 104 #[.int .u64 x, v, u]).run Tryz.prog w = .ok (.value (.tuple #[.int .u64 ((x + y + c) % 18446744073709551616 : Nat), .int .u64 ((x + y + c) / 18446744073709551616 : Nat)])) w := by
  subst hv hu
  exact add64_all x y c hx hy hc w
theorem add_any (N n : Nat) (B : Nat) (w : World) (hn : n ≤ 128) (hb : w.heap[B]? = some (ctW N)) (hl : N + 2 ^ n < 6277101735386680763835789423207666416102355444464034512896) :
    Calls Tryz.prog 82 #[.pointer (some ⟨B, 0, none⟩), .int .i64 n] w fun e w' => e = .returned (.tuple #[]) ∧ w'.heap[B]? = some (ctW (N + 2 ^ n)) ∧ Below B w w' := by
  have hp := Nat.two_pow_pos n
  have hN := wd_all N (by omega)
  have wl : ∀ i, wdOf N i < 18446744073709551616 := fun i => Nat.mod_lt _ (by decide)
  have w0 := wl 0
  have w1 := wl 1
  have w2 := wl 2
  obtain ⟨m, q, hm, e, hq⟩ : ∃ m q, m < 64 ∧ n = 64 * q + m ∧ q ≤ 2 := ⟨n % 64, n / 64, by omega, by omega, by omega⟩
  have hx2 : 2 ^ m < 18446744073709551616 := Nat.lt_of_lt_of_le (Nat.pow_lt_pow_right (by decide) hm) (by decide)
  have hr : (n : Int) % 64 = (m : Int) := by omega
  have hqq : (n : Int) / 64 = (q : Int) := by omega
  obtain ⟨x, hxe⟩ : ∃ x, x = 2 ^ m := ⟨_, rfl⟩
  rw [← hxe] at hx2
  have hx : IntKind.u64.wrap (2 ^ m) = (x : Int) := by
    rw [show (2 : Int) ^ m = ((x : Nat) : Int) by rw [hxe]; push_cast; rfl]
    exact IntWalk.u64_in _ (by omega)
  have h2 : 2 ^ n = 18446744073709551616 ^ q * x := by rw [e, Nat.pow_add, Nat.pow_mul, hxe]
  rw [h2] at hl ⊢
  have dm : ∀ z : Nat, z % 18446744073709551616 + 18446744073709551616 * (z / 18446744073709551616) = z := fun z => Nat.mod_add_div _ _
  have ml : ∀ z : Nat, z % 18446744073709551616 < 18446744073709551616 := fun z => Nat.mod_lt _ (by decide)
  obtain rfl | rfl | rfl : q = 0 ∨ q = 1 ∨ q = 2 := by omega
  · have k0 : (wdOf N 0 + x + 0) / 18446744073709551616 ≤ 1 := by omega
    have k1 : (wdOf N 1 + 0 + (wdOf N 0 + x + 0) / 18446744073709551616) / 18446744073709551616 ≤ 1 := by omega
    obtain ⟨f0, f1, f2⟩ := add_words (dm (wdOf N 0 + x + 0)) (dm (wdOf N 1 + 0 + (wdOf N 0 + x + 0) / 18446744073709551616)) (dm (wdOf N 2 + 0 + (wdOf N 1 + 0 + (wdOf N 0 + x + 0) / 18446744073709551616) / 18446744073709551616)) (ml _) (ml _) (ml _) hN (M := N + 18446744073709551616 ^ 0 * x) (by omega)
    refine (add_q0 _ _ _ m n x _ _ _ _ _ _ B w hm hb hqq hr hx (add64_at _ x 0 w0 hx2 (by omega) rfl rfl) (add64_at _ 0 _ w1 (by omega) k0 rfl rfl) (add64_at _ 0 _ w2 (by omega) k1 rfl rfl)).mono ?_
    rintro e w' ⟨he, hc, hbl⟩
    exact ⟨he, by rw [hc, f0, f1, f2]; rfl, hbl⟩
  · have k0 : (wdOf N 0 + 0 + 0) / 18446744073709551616 ≤ 1 := by omega
    have k1 : (wdOf N 1 + x + (wdOf N 0 + 0 + 0) / 18446744073709551616) / 18446744073709551616 ≤ 1 := by omega
    obtain ⟨f0, f1, f2⟩ := add_words (dm (wdOf N 0 + 0 + 0)) (dm (wdOf N 1 + x + (wdOf N 0 + 0 + 0) / 18446744073709551616)) (dm (wdOf N 2 + 0 + (wdOf N 1 + x + (wdOf N 0 + 0 + 0) / 18446744073709551616) / 18446744073709551616)) (ml _) (ml _) (ml _) hN (M := N + 18446744073709551616 ^ 1 * x) (by omega)
    refine (add_q1 _ _ _ m n x _ _ _ _ _ _ B w hm hb hqq hr hx (add64_at _ 0 0 w0 (by omega) (by omega) rfl rfl) (add64_at _ x _ w1 hx2 k0 rfl rfl) (add64_at _ 0 _ w2 (by omega) k1 rfl rfl)).mono ?_
    rintro e w' ⟨he, hc, hbl⟩
    exact ⟨he, by rw [hc, f0, f1, f2]; rfl, hbl⟩
  · have k0 : (wdOf N 0 + 0 + 0) / 18446744073709551616 ≤ 1 := by omega
    have k1 : (wdOf N 1 + 0 + (wdOf N 0 + 0 + 0) / 18446744073709551616) / 18446744073709551616 ≤ 1 := by omega
    obtain ⟨f0, f1, f2⟩ := add_words (dm (wdOf N 0 + 0 + 0)) (dm (wdOf N 1 + 0 + (wdOf N 0 + 0 + 0) / 18446744073709551616)) (dm (wdOf N 2 + x + (wdOf N 1 + 0 + (wdOf N 0 + 0 + 0) / 18446744073709551616) / 18446744073709551616)) (ml _) (ml _) (ml _) hN (M := N + 18446744073709551616 ^ 2 * x) (by omega)
    refine (add_q2 _ _ _ m n x _ _ _ _ _ _ B w hm hb hqq hr hx (add64_at _ 0 0 w0 (by omega) (by omega) rfl rfl) (add64_at _ 0 _ w1 (by omega) k0 rfl rfl) (add64_at _ x _ w2 hx2 k1 rfl rfl)).mono ?_
    rintro e w' ⟨he, hc, hbl⟩
    exact ⟨he, by rw [hc, f0, f1, f2]; rfl, hbl⟩
end Go.Proofs.YtcmfkheohhfpiaaGreatDoor

namespace Go.Proofs.YtcmfkheohhfpiaaGreatDoor
open Go.RowKit
theorem infoU64 : (Tryz.prog.info? 28).map (fun i => (i.zero, i.size, i.bytes)) = some (some (.int .u64 0), 1, 8) := by kernel_rfl
theorem run_eq_ct (a b c : Int) (w : World) : (Op.equalIn 10000 144 (.agg #[.int .u64 a, .int .u64 b, .int .u64 c]) (.agg #[.int .u64 0, .int .u64 0, .int .u64 0])).run Tryz.prog w = .ok ((a == 0) && ((b == 0) && (c == 0))) w := by
  have u3 := Tryz.underlying28
  have hu : Tryz.prog.underlying 144 = some (.array 3 28) := by kernel_rfl
  obtain ⟨i0, hi, hz0, hz1, hz2⟩ := info_parts infoU64
  have hc : Tryz.prog.cellsOf 28 = 1 := by kernel_rfl
  rw [show (10000 : Nat) = 9999 + 1 from rfl, run_equalIn_array w 9999 _ _ hu hi, hc, show List.range 3 = [0, 1, 2] from rfl, show (9999 : Nat) = 9998 + 1 from rfl]
  have he : Tryz.prog.plainKey 28 = true := by kernel_rfl
  have step : ∀ (xs ys : Array Value) (j : Nat) (js : List Nat) (x y : Int), xs[j]? = some (.int .u64 x) → ys[j]? = some (.int .u64 y) → (Op.eqItems (9998 + 1) 28 1 xs ys (j :: js)).run Tryz.prog w = if (x == y) = true then (Op.eqItems (9998 + 1) 28 1 xs ys js).run Tryz.prog w else .ok false w := by
    intro xs ys j js x y hx hy
    have h1 := run_part_plain w he (off := j * 1) (by rw [Nat.mul_one]; exact hx)
    have h2 := run_part_plain w he (off := j * 1) (by rw [Nat.mul_one]; exact hy)
    have h3 := run_equalIn_int w 9998 28 .u64 .u64 x y u3
    simp only [Op.eqItems, Sem.run_bind, h1, h2, h3, Result.andThen_ok]
    cases x == y <;> simp
  rw [step _ _ 0 _ a 0 rfl rfl, step _ _ 1 _ b 0 rfl rfl, step _ _ 2 _ c 0 rfl rfl]
  generalize (a == 0) = c0
  generalize (b == 0) = c1
  generalize (c == 0) = c2
  cases c0
  · simp
  cases c1
  · simp
  cases c2 <;> simp [Op.eqItems]
theorem str_app (a b : List UInt8) : (⟨a.toArray⟩ : ByteArray) ++ ⟨b.toArray⟩ = ⟨(a ++ b).toArray⟩ := by
  apply ByteArray.ext
  simp
theorem rep_zero : ∀ c, Lib.repeatL [48] c = List.replicate c 48
  | 0 => rfl
  | c + 1 => by rw [Lib.repeatL, rep_zero c]; rfl
theorem guard_ct : Tryz.prog.eqGuardType Tryz.prog.depth 144 = false := by kernel_rfl
theorem tab_kept {w w' : World} {B : Nat} (h : Lib.TabIs Tryz.prog w "internal/strconv.uint64pow10" .u64 Lib.pow10Tab) (hb : Below B w w') (hB : w.heap.size ≤ B) : Lib.TabIs Tryz.prog w' "internal/strconv.uint64pow10" .u64 Lib.pow10Tab := by
  unfold Lib.TabIs World.var? at *
  cases hg : Tryz.prog.globalNamed "internal/strconv.uint64pow10" with
  | none => simp [hg] at h
  | some g =>
    simp only [hg, Option.bind_some] at h ⊢
    have hlt : g < w.heap.size := by
      rcases Nat.lt_or_ge g w.heap.size with h' | h'
      · exact h'
      · rw [Array.getElem?_eq_none h'] at h; simp at h
    rw [hb.block g (by omega)]
    exact h
theorem rep_any (z : Nat) (hz : z ≤ 18) (w : World) : Calls Tryz.prog 142 #[.string ⟨#[48]⟩, .int .i64 z] w fun e w' => e = .returned (.string ⟨(List.replicate z 48).toArray⟩) ∧ Below w.heap.size w w' := by
  have h := Tryz.strings_Repeat ⟨#[48]⟩ z w (Nat.le_trans hz (by decide)) (Nat.le_trans (show 1 * z ≤ 18 by omega) (by decide))
  rw [show (⟨#[48]⟩ : ByteArray).data.toList = [48] from rfl, rep_zero] at h
  exact h
/-- What stands when so many rounds are still to come at most. -/
def TwI (w : World) (N : Nat) (gk : Nat) (v3 : Value) (wr : World) : Prop :=
  ∃ n k s, k + gk = 4 ∧ n < 10 ^ (18 * gk) ∧ n < 6277101735386680763835789423207666416102355444464034512896 ∧ v3 = .string ⟨s.toArray⟩ ∧ TxI N n s k ∧ wr.heap[w.heap.size]? = some (ctW n) ∧ Below w.heap.size w wr
set_option maxRecDepth 100000 in
set_option maxHeartbeats 8000000 in
theorem text_any (N : Nat) (w : World) (hl : N < 6277101735386680763835789423207666416102355444464034512896) (ht : Lib.TabIs Tryz.prog w "internal/strconv.uint64pow10" .u64 Lib.pow10Tab) :
    Calls Tryz.prog 83 #[.agg #[.int .u64 (wdOf N 0), .int .u64 (wdOf N 1), .int .u64 (wdOf N 2)]] w fun e w' => ∃ s : List UInt8, e = .returned (.string ⟨s.toArray⟩) ∧ digB s ∧ worthB s = N ∧ s.length ≤ 100 ∧ Below w.heap.size w w' := by
  have HT := Lib.hid ht
  clear ht
  go_enter Tryz.func83, Tryz.ntmps83
  go_wp2_with fail
  go_loopg [3] 4 (fun gk v3 wr => TwI w N gk v3 wr)
  case atStart => exact ⟨N, 0, [], rfl, Nat.lt_of_lt_of_le hl (by decide), hl, rfl, TxI.start N, heap_alloc_new w _, (Below.refl _ _).alloc (Nat.le_refl _) _⟩
  case round =>
    obtain ⟨n, k, s, hg, hn, hn2, rfl, hT, hb, hbl⟩ := hrel
    have HG := Lib.hid hg
    have HN := Lib.hid hn
    have HN2 := Lib.hid hn2
    have HX := Lib.hid hT
    have HB := Lib.hid hbl
    have hwords := wd_all n hn2
    have wl : ∀ i, wdOf n i < 18446744073709551616 := fun i => Nat.mod_lt _ (by decide)
    have l0 := wl 0
    have l1 := wl 1
    have l2 := wl 2
    unfold ctW at hb
    generalize wdOf n 0 = a at hb hwords l0
    generalize wdOf n 1 = b at hb hwords l1
    generalize wdOf n 2 = c at hb hwords l2
    obtain ⟨q2, r2, k2⟩ : ∃ q r, KnIs 0 c q r := ⟨_, _, rfl, rfl⟩
    have hr2 : r2 < 1000000000000000000 := by rw [k2.r]; exact Nat.mod_lt _ (by decide)
    obtain ⟨q1, r1, k1⟩ : ∃ q r, KnIs r2 b q r := ⟨_, _, rfl, rfl⟩
    have hr1 : r1 < 1000000000000000000 := by rw [k1.r]; exact Nat.mod_lt _ (by decide)
    obtain ⟨q0, r0, k0⟩ : ∃ q r, KnIs r1 a q r := ⟨_, _, rfl, rfl⟩
    have hr0 : r0 < 1000000000000000000 := by rw [k0.r]; exact Nat.mod_lt _ (by decide)
    have hdv := div_words (a := c) (b := b) (c := a) 1000000000000000000 (by decide) (d := n) (by omega)
    have HD : Hid (n / 1000000000000000000 = (q2 * 18446744073709551616 + q1) * 18446744073709551616 + q0 ∧ n % 1000000000000000000 = r0) := by
      have e2 : q2 = c / 1000000000000000000 := by rw [k2.q, Nat.zero_mul, Nat.zero_add]
      have f2 : r2 = c % 1000000000000000000 := by rw [k2.r, Nat.zero_mul, Nat.zero_add]
      have e1 : q1 = (c % 1000000000000000000 * 18446744073709551616 + b) / 1000000000000000000 := by rw [k1.q, f2]
      have f1 : r1 = (c % 1000000000000000000 * 18446744073709551616 + b) % 1000000000000000000 := by rw [k1.r, f2]
      have e0 : q0 = ((c % 1000000000000000000 * 18446744073709551616 + b) % 1000000000000000000 * 18446744073709551616 + a) / 1000000000000000000 := by rw [k0.q, f1]
      have f0 : r0 = ((c % 1000000000000000000 * 18446744073709551616 + b) % 1000000000000000000 * 18446744073709551616 + a) % 1000000000000000000 := by rw [k0.r, f1]
      exact Lib.hid ⟨by rw [hdv.1, e0, e1, e2], by rw [hdv.2, f0]⟩
    have HQ : Hid (q0 < 18446744073709551616 ∧ q1 < 18446744073709551616 ∧ q2 < 18446744073709551616) := by
      have e0 := k0.q
      have e1 := k1.q
      have e2 := k2.q
      exact Lib.hid ⟨by omega, by omega, by omega⟩
    have HBX := Lib.hid hb
    have hB0 := lt_of_block hb
    obtain ⟨z0, z1, z2, f0, f1, f2⟩ := res3 hb
    clear hg hn hn2 hT hbl hwords wl hdv hb hl
    go_wp2_with fail
    refine wp_loop_rounds 4 ?_
    rw [rounds_succ]
    go_wp2_with fail
    refine (div64_any 0 c q2 r2 _ (by decide) l2 k2).mono ?_
    rintro e w1 ⟨rfl, hb1⟩
    have hx1 := (hb1.block _ hB0).trans HBX.out
    have HB1 := Lib.hid (HB.out.trans (hb1.mono HB.out.size))
    obtain ⟨z0, z1, z2, f0, f1, f2⟩ := res3 hx1
    have hv1 := ct_setI hx1 2 (.int .u64 q2)
    have HV1 : Hid ((w1.setCell ⟨w.heap.size, 2, none⟩ (.int .u64 q2)).heap[w.heap.size]? = some (ctBox a b q2)) := Lib.hid hv1
    have HW1 := Lib.hid (HB1.out.setCell (Nat.le_refl _) (p := ⟨w.heap.size, 2, none⟩) (.int .u64 q2))
    clear hb1 hx1 hv1 HBX HB HB1 hB0
    go_wp2_with fail
    generalize hW : World.setCell _ _ _ = W1 at HV1 HW1 ⊢
    clear hW z0 z1 z2 f0 f1 f2
    have hB1 := lt_of_block HV1.out
    obtain ⟨z0, z1, z2, f0, f1, f2⟩ := res3 HV1.out
    rw [rounds_succ]
    go_wp2_with fail
    refine (div64_any r2 b q1 r1 _ hr2 l1 k1).mono ?_
    rintro e w2 ⟨rfl, hb1⟩
    have hx1 := (hb1.block _ hB1).trans HV1.out
    have HB2 := Lib.hid (HW1.out.trans (hb1.mono HW1.out.size))
    obtain ⟨z0, z1, z2, f0, f1, f2⟩ := res3 hx1
    have hv1 := ct_setI hx1 1 (.int .u64 q1)
    have HV2 : Hid ((w2.setCell ⟨w.heap.size, 1, none⟩ (.int .u64 q1)).heap[w.heap.size]? = some (ctBox a q1 q2)) := Lib.hid hv1
    have HW2 := Lib.hid (HB2.out.setCell (Nat.le_refl _) (p := ⟨w.heap.size, 1, none⟩) (.int .u64 q1))
    clear hb1 hx1 hv1 HV1 HW1 HB2 hB1
    go_wp2_with fail
    generalize hW : World.setCell _ _ _ = W2 at HV2 HW2 ⊢
    clear hW z0 z1 z2 f0 f1 f2
    have hB2 := lt_of_block HV2.out
    obtain ⟨z0, z1, z2, f0, f1, f2⟩ := res3 HV2.out
    rw [rounds_succ]
    go_wp2_with fail
    refine (div64_any r1 a q0 r0 _ hr1 l0 k0).mono ?_
    rintro e w3 ⟨rfl, hb1⟩
    have hx1 := (hb1.block _ hB2).trans HV2.out
    have HB3 := Lib.hid (HW2.out.trans (hb1.mono HW2.out.size))
    obtain ⟨z0, z1, z2, f0, f1, f2⟩ := res3 hx1
    have hv1 := ct_setI hx1 0 (.int .u64 q0)
    have HV3 : Hid ((w3.setCell ⟨w.heap.size, 0, none⟩ (.int .u64 q0)).heap[w.heap.size]? = some (ctBox q0 q1 q2)) := Lib.hid hv1
    have HW3 := Lib.hid (HB3.out.setCell (Nat.le_refl _) (p := ⟨w.heap.size, 0, none⟩) (.int .u64 q0))
    clear hb1 hx1 hv1 HV2 HW2 HB3 hB2
    go_wp2_with fail
    generalize hW : World.setCell _ _ _ = W3 at HV3 HW3 ⊢
    clear hW z0 z1 z2 f0 f1 f2
    have hB3 := lt_of_block HV3.out
    obtain ⟨z0, z1, z2, f0, f1, f2⟩ := res3 HV3.out
    rw [rounds_succ]
    go_wp2_with fail
    refine (fmt10_all r0 (by omega) W3 (tab_kept HT.out HW3.out (Nat.le_refl _))).mono ?_
    rintro e w4 ⟨rfl, hb4⟩
    have hx4 := (hb4.block _ hB3).trans HV3.out
    have HB4 := Lib.hid (HW3.out.trans (hb4.mono HW3.out.size))
    have HX4 := Lib.hid hx4
    have hB4 := lt_of_block hx4
    obtain ⟨y0, y1, y2, -, -, -⟩ := res3 hx4
    have hgd := guard_ct
    have HL : Hid ((Lib.decDigits r0).length ≤ 18) := Lib.hid (dec_len 17 _ (Nat.lt_of_lt_of_le hr0 (by decide)))
    have HR : Hid (Lib.decDigits r0 = Lib.decDigits (n % 1000000000000000000)) := Lib.hid (by rw [HD.out.2])
    generalize Lib.decDigits r0 = dg at HL HR ⊢
    clear hb4 hx4 HV3 HW3 k0 k1 k2 hr0 hr1 hr2
    have hsl : s.length ≤ 72 := by
      have h1 := HX.out.len
      have h2 := HG.out
      omega
    have hdl := HL.out
    have hof : ¬ 9223372036854775807 < dg.length + s.length := by omega
    by_cases hz : n / 1000000000000000000 = 0
    · obtain ⟨rfl, rfl, rfl⟩ : q0 = 0 ∧ q1 = 0 ∧ q2 = 0 := by have := HD.out.1; omega
      have heq : ∀ W, (Op.equalIn 10000 144 (.agg #[.int .u64 0, .int .u64 0, .int .u64 0]) (.agg #[.int .u64 0, .int .u64 0, .int .u64 0])).run Tryz.prog W = .ok true W := fun W => run_eq_ct 0 0 0 W
      have HZ := Lib.hid hz
      clear hz
      go_wp2_with fail
      go_ret
      obtain ⟨f1, f2⟩ := HX.out.last HR.out HZ.out
      exact ⟨dg ++ s, by rw [str_app]; rfl, f1, f2, by rw [List.length_append]; omega, HB4.out⟩
    · have heq : ∀ W, (Op.equalIn 10000 144 (.agg #[.int .u64 q0, .int .u64 q1, .int .u64 q2]) (.agg #[.int .u64 0, .int .u64 0, .int .u64 0])).run Tryz.prog W = .ok false W := fun W => by
        rw [run_eq_ct q0 q1 q2 W]
        have := HD.out.1
        have h3 : ¬ (q0 = 0 ∧ q1 = 0 ∧ q2 = 0) := fun ⟨e0, e1, e2⟩ => by omega
        have h4 : ((q0 : Int) == 0 && ((q1 : Int) == 0 && (q2 : Int) == 0)) = false := by
          rw [Bool.eq_false_iff]
          simp only [ne_eq, Bool.and_eq_true, beq_iff_eq]
          omega
        rw [h4]
      have HZ := Lib.hid hz
      obtain ⟨z, hzz⟩ : ∃ z, z = 18 - dg.length := ⟨_, rfl⟩
      have HZZ := Lib.hid hzz
      have HWR : Hid ((18 : Int) - (dg.length : Int) = (z : Int)) := Lib.hid (by omega)
      clear hzz
      clear hz
      go_wp2_with fail
      rw [HWR.out]
      refine (rep_any z (by have := HZZ.out; omega) w4).mono ?_
      rintro e w5 ⟨rfl, hb5⟩
      have HX5 := Lib.hid ((hb5.block _ hB4).trans HX4.out)
      have HB5 := Lib.hid (HB4.out.trans (hb5.mono HB4.out.size))
      have hrl : (List.replicate z (48 : UInt8)).length ≤ 18 := by rw [List.length_replicate, HZZ.out]; omega
      have HS : Hid (TxI N (n / 1000000000000000000) (List.replicate z 48 ++ dg ++ s) (k + 1)) := Lib.hid (by rw [HZZ.out]; exact HX.out.step HR.out)
      generalize List.replicate z (48 : UInt8) = rp at hrl HS ⊢
      have hof2 : ¬ 9223372036854775807 < rp.length + dg.length := by omega
      have hof3 : ¬ 9223372036854775807 < rp.length + dg.length + s.length := by omega
      clear hb5 heq
      go_wp2_with fail
      have hD := HD.out.1
      have hQ := HQ.out
      have hN := HN.out
      have hG := HG.out
      have hZ := HZ.out
      have hg1 : 1 ≤ gk := by
        rcases gk with _ | g
        · exfalso
          rw [Nat.mul_zero, Nat.pow_zero] at hN
          omega
        · omega
      go_roundg (gk - 1)
      case measure => omega
      case rel =>
        refine ⟨n / 1000000000000000000, k + 1, rp ++ dg ++ s, by omega, ?_, Nat.lt_of_le_of_lt (Nat.div_le_self _ _) HN2.out, by rw [str_app, str_app], HS.out, ?_, HB5.out⟩
        · rw [Nat.div_lt_iff_lt_mul (by decide), show (1000000000000000000 : Nat) = 10 ^ 18 by decide, ← Nat.pow_add, show 18 * (gk - 1) + 18 = 18 * gk by omega]
          exact hN
        · rw [HX5.out]
          unfold ctW wdOf
          rw [p64_0, p64_1, p64_2, hD]
          have e0 : ((q2 * 18446744073709551616 + q1) * 18446744073709551616 + q0) / 1 % 18446744073709551616 = q0 := by omega
          have e1 : ((q2 * 18446744073709551616 + q1) * 18446744073709551616 + q0) / 18446744073709551616 % 18446744073709551616 = q1 := by omega
          have e2 : ((q2 * 18446744073709551616 + q1) * 18446744073709551616 + q0) / 340282366920938463463374607431768211456 % 18446744073709551616 = q2 := by omega
          rw [e0, e1, e2]
end Go.Proofs.YtcmfkheohhfpiaaGreatDoor

namespace Go.Proofs.YtcmfkheohhfpiaaGreatDoor
open Go.RowKit Go.Hw
theorem lenB_le : ∀ (B : List Bk), (∀ b ∈ B, b.2 ≤ 128) → lenB B ≤ B.length * 340282366920938463463374607431768211456
  | [], _ => Nat.zero_le _
  | b :: B, h => by
    have h1 := lenB_le B (fun x hx => h x (by simp [hx]))
    have h2 : 2 ^ b.2 ≤ 2 ^ 128 := Nat.pow_le_pow_right (by decide) (h b (by simp))
    have h3 : (2 : Nat) ^ 128 = 340282366920938463463374607431768211456 := by decide
    rw [lenB, List.length_cons, Nat.succ_mul]
    omega
/-- Where the sum stands at a place of the row. -/
def SzI (W : World) (nb : Nat) (L : List Pf) (v : Value) (wr : World) : Prop :=
  ∃ k : Nat, k ≤ L.length ∧ v = .int .i64 k ∧ wr.heap[nb]? = some (ctW (lenB ((L.take k).map bkP))) ∧ Below nb W wr
theorem take_sum {L : List Pf} {k : Nat} (h : k < L.length) : lenB ((L.take (k + 1)).map bkP) = lenB ((L.take k).map bkP) + 2 ^ (lenA (L.getD k noPf).six - (L.getD k noPf).bits).toNat := by
  rw [List.take_add_one, List.map_append, lenB_append, List.getElem?_eq_getElem h, List.getD_eq_getElem?_getD, List.getElem?_eq_getElem h]
  rfl
set_option maxRecDepth 100000 in
set_option maxHeartbeats 8000000 in
theorem size_any (A : Option Addr) (cap : Nat) (L : List Pf) (S : List Sn) (w : World) (h : pxAt w A L) (hs : SetIs L S) (hl : L.length ≤ 1000) (ht : Lib.TabIs Tryz.prog w "internal/strconv.uint64pow10" .u64 Lib.pow10Tab) :
    Calls Tryz.prog 45 #[.slice A L.length cap] w fun e w' => ∃ s : List UInt8, e = .returned (.tuple #[.string ⟨s.toArray⟩, .int .i64 0]) ∧ digB s ∧ worthB s = lenS S ∧ s.length ≤ 100 ∧ Below w.heap.size w w' := by
  have hck := checkSet_any A cap L S w h hs hl
  have HLA : Hid (lenB (L.map bkP) < 6277101735386680763835789423207666416102355444464034512896) := Lib.hid (by
    have h1 := lenB_le (L.map bkP) (fun b hb => (hs.row.al _ hb).2)
    rw [List.length_map] at h1
    have h4 : L.length * 340282366920938463463374607431768211456 ≤ 1000 * 340282366920938463463374607431768211456 := Nat.mul_le_mul_right _ (by omega)
    omega)
  have HA := Lib.hid h
  have HS := Lib.hid hs
  have HT := Lib.hid ht
  clear h hs ht
  go_enter Tryz.func45, Tryz.ntmps45
  go_wp2_with fail
  refine hck.mono ?_
  rintro e w1 ⟨rfl, hb1⟩
  have HA1 := Lib.hid (HA.out.below hb1)
  have HB1 := Lib.hid hb1
  clear hb1 hck HA
  go_upto_region 5 with (fail)
  have hx0 := heap_alloc_new w1 (ctW 0)
  have HX0 : Hid ((w1.alloc (ctW 0)).heap[w1.heap.size]? = some (ctW 0)) := Lib.hid hx0
  go_wp2_with fail
  go_loopw [15] (fun v15 wr => SzI w1 w1.heap.size L v15 wr) (fun v15 _ => L.length - (intOf v15).toNat)
  case atStart => exact ⟨0, Nat.zero_le _, rfl, hx0, (Below.refl _ _).alloc (Nat.le_refl _) _⟩
  case round =>
    obtain ⟨k, hk, rfl, hx, hb⟩ := hrel
    have HX := Lib.hid hx
    have HB := Lib.hid hb
    by_cases hlt : k < L.length
    · obtain ⟨g5, off, hA, hgB, hcc⟩ := (HA1.out.below hb) k hlt
      obtain ⟨c0, c1, c2, c3⟩ := px_cells hcc
      have hrx := HS.out.ok (L.getD k noPf) (rw_mem hlt)
      have HTS := Lib.hid (take_sum hlt)
      obtain ⟨m, hm, hm2, -, -⟩ := last_num hrx
      generalize L.getD k noPf = x at *
      have hd : decide ((k : Int) < (L.length : Int)) = true := by simp; omega
      have HM := Lib.hid hm
      have HM2 := Lib.hid hm2
      subst hA
      have HWM : Hid (IntKind.i64.wrap (m : Int) = (m : Int)) := Lib.hid (IntWalk.i64_in _ (by omega))
      have HLT : Hid (lenB ((L.take k).map bkP) + 2 ^ m < 6277101735386680763835789423207666416102355444464034512896) := Lib.hid (by
        have h1 := lenB_le ((L.take k).map bkP) (fun b hb => by
          obtain ⟨p, hp, rfl⟩ := List.mem_map.1 hb
          exact (HS.out.row.al _ (List.mem_map.2 ⟨p, List.mem_of_mem_take hp, rfl⟩)).2)
        have h2 : 2 ^ m ≤ 2 ^ 128 := Nat.pow_le_pow_right (by decide) hm2
        have h3 : (2 : Nat) ^ 128 = 340282366920938463463374607431768211456 := by decide
        rw [List.length_map, List.length_take] at h1
        have h4 : min k L.length * 340282366920938463463374607431768211456 ≤ 1000 * 340282366920938463463374607431768211456 := Nat.mul_le_mul_right _ (by omega)
        omega)
      have HTM : Hid ((lenA x.six - x.bits).toNat = m) := Lib.hid (by omega)
      clear hcc hrx hm hm2 hx0 HX0
      go_upto_region 8 with (fail)
      have hpn := heap_alloc_new wr (.cells #[.bool x.six, .int .u64 x.hi, .int .u64 x.lo, .int .i64 x.bits] 48 (0, 0))
      obtain ⟨⟨x0, x1, x2, x3⟩, -⟩ := res4 hpn
      have HX2 := Lib.hid (((Below.refl _ _).alloc (Nat.le_refl _) _ : Below wr.heap.size wr (wr.alloc (.cells #[.bool x.six, .int .u64 x.hi, .int .u64 x.lo, .int .i64 x.bits] 48 (0, 0)))).block _ (lt_of_block hx) |>.trans hx)
      have HB2 := Lib.hid (hb.alloc hb.size (.cells #[.bool x.six, .int .u64 x.hi, .int .u64 x.lo, .int .i64 x.bits] 48 (0, 0)))
      have hpb := lt_of_block hpn
      generalize World.alloc wr _ = W2 at hpn x0 x1 x2 x3 HX2 HB2 hpb ⊢
      generalize wr.heap.size = pb at hpn x0 x1 x2 x3 hpb ⊢
      have hnb := lt_of_block HX2.out
      clear hpn hx hb
      -- R8
      refine wp_region_exact 6 (fun f' => ⟨#[.slice (some ⟨g5, off, none⟩) L.length cap, undef, .string { data := #[] }, .int .i64 0, .int .i64 0, .pointer (some ⟨w1.heap.size, 0, none⟩), undef, .pointer (some ⟨pb, 0, none⟩), .slice (some ⟨g5, off, none⟩) L.length cap, .int .i64 0, .int .i64 0, .bool false, undef, .slice (some ⟨g5, off, none⟩) L.length cap, .int .i64 L.length, .int .i64 k, .bool true, .pointer (some ⟨g5, off + k * 4, none⟩), .agg #[Value.bool x.six, Value.int IntKind.u64 x.hi, Value.int IntKind.u64 x.lo, Value.int IntKind.i64 x.bits], f' 0, f' 1, f' 2, f' 3, f' 4, f' 5, u25, u26, undef, undef], []⟩) (fun i9 => match i9 with | 0 => .pointer (some ⟨pb, 0, none⟩) | 1 => .agg #[.bool x.six, .int .u64 x.hi, .int .u64 x.lo] | 2 => .int .i64 (lenA x.six) | 3 => .pointer (some ⟨pb, 3, none⟩) | 4 => .int .i64 x.bits | 5 => .int .i64 m | _ => undef) (fun lb w' => Hid (Below W2.heap.size W2 w')) (fun i9 => match i9 with | 0 => u19 | 1 => u20 | 2 => u21 | 3 => u22 | 4 => u23 | 5 => u24 | _ => undef) 10 (show Tryz.prog.follows .mixedOrders = true from by kernel_rfl) (by kernel_rfl) ?_ ?_ (Lib.hid (Below.refl _ _).drew)
      · intro i9 op hi9 ho lb f' w' hl hS hd
        have hcase : i9 = 0 ∨ i9 = 1 ∨ i9 = 2 ∨ i9 = 3 ∨ i9 = 4 ∨ i9 = 5 := by omega
        rcases hcase with rfl | rfl | rfl | rfl | rfl | rfl <;> (replace ho := Option.some.inj ho; subst ho)
        · refine OpStep.of rfl ?_
          unfold Oper.wp
          go_simp
          first | exact ⟨by first | (simp [upd]; done) | (simp [upd]; omega), hS⟩ | (simp [upd]; done) | (simp [upd]; omega)
        · have e0 : f' 0 = .pointer (some ⟨pb, 0, none⟩) := (hd ⟨0, .data⟩ (by simp) rfl).2
          refine OpStep.of rfl ?_
          have x0' : w'.cell? ⟨pb, 0, none⟩ = some (.bool x.six) := (hS.out.cell (p := ⟨pb, _, none⟩) hpb).trans x0
          have x1' : w'.cell? ⟨pb, 1, none⟩ = some (.int .u64 x.hi) := (hS.out.cell (p := ⟨pb, _, none⟩) hpb).trans x1
          have x2' : w'.cell? ⟨pb, 2, none⟩ = some (.int .u64 x.lo) := (hS.out.cell (p := ⟨pb, _, none⟩) hpb).trans x2
          unfold Oper.wp
          go_simp
          first | exact ⟨by first | (simp [upd, e0]; done) | (simp [upd, e0]; omega), hS⟩ | (simp [upd, e0]; done) | (simp [upd, e0]; omega)
        · have e1 : f' 1 = .agg #[.bool x.six, .int .u64 x.hi, .int .u64 x.lo] := (hd ⟨1, .data⟩ (by simp) rfl).2
          refine OpStep.of rfl ?_
          unfold Oper.wp
          go_simp
          refine (spanLength_any x.six x.hi x.lo w').mono ?_
          rintro e w9 ⟨rfl, hb9⟩
          exact ⟨by simp [upd, e1], Lib.hid (hS.out.trans (hb9.mono hS.out.size))⟩
        · refine OpStep.of rfl ?_
          unfold Oper.wp
          go_simp
          first | exact ⟨by first | (simp [upd]; done) | (simp [upd]; omega), hS⟩ | (simp [upd]; done) | (simp [upd]; omega)
        · have e3 : f' 3 = .pointer (some ⟨pb, 3, none⟩) := (hd ⟨3, .data⟩ (by simp) rfl).2
          refine OpStep.of rfl ?_
          have x3' : w'.cell? ⟨pb, 3, none⟩ = some (.int .i64 x.bits) := (hS.out.cell (p := ⟨pb, _, none⟩) hpb).trans x3
          unfold Oper.wp
          go_simp
          first | exact ⟨by first | (simp [upd, e3]; done) | (simp [upd, e3]; omega), hS⟩ | (simp [upd, e3]; done) | (simp [upd, e3]; omega)
        · have e2 : f' 2 = .int .i64 (lenA x.six) := (hd ⟨2, .data⟩ (by simp) rfl).2
          have e4 : f' 4 = .int .i64 x.bits := (hd ⟨4, .data⟩ (by simp) rfl).2
          refine OpStep.of rfl ?_
          unfold Oper.wp
          go_simp
          first | exact ⟨by first | (simp [upd, e2, e4, HM.out, HWM.out]; done) | (simp [upd, e2, e4, HM.out, HWM.out]; omega), hS⟩ | (simp [upd, e2, e4, HM.out, HWM.out]; done) | (simp [upd, e2, e4, HM.out, HWM.out]; omega)
      · intro op ho lb f' w' hd hS
        have e5 : f' 5 = .int .i64 m := (hd 5 (by omega)).2
        replace ho := Option.some.inj ho
        subst ho
        refine ⟨rfl, ?_⟩
        unfold Oper.wp
        go_simp
        have HB3 := Lib.hid hS.out
        clear hd
        refine (add_any _ m w1.heap.size w' HM2.out ((hS.out.block _ hnb).trans HX2.out) HLT.out).mono ?_
        rintro e w3 ⟨rfl, hx3, hb3⟩
        go_wp2_with fail
        exact ⟨⟨k + 1, by omega, by simp, by rw [hx3, HTS.out, HTM.out], (HB2.out.trans (HB3.out.mono HB2.out.size)).trans hb3⟩, by simp [intOf]; omega⟩
      -- END R8
    · have : k = L.length := by omega
      subst this
      rw [List.take_length] at hx
      obtain ⟨z0, z1, z2, -, -, -⟩ := res3 hx
      have htx := text_any (lenB (L.map bkP)) wr HLA.out (tab_kept (tab_kept HT.out HB1.out (Nat.le_refl _)) HB.out (Nat.le_refl _))
      clear hb
      go_wp2_with fail
      refine htx.mono ?_
      rintro e w3 ⟨s, rfl, hd, hw, hsl, hb3⟩
      have HF : Hid (digB s ∧ worthB s = lenS S ∧ s.length ≤ 100 ∧ Below w.heap.size w w3) := by
        have e1 : lenB (L.map bkP) = lenS S := by rw [HS.out.map, lenB_preS]
        have h2 := HB.out.trans (hb3.mono HB.out.size)
        exact Lib.hid ⟨hd, by rw [hw, e1], hsl, HB1.out.trans (h2.mono HB1.out.size)⟩
      clear hd hw hsl hb3 htx
      go_wp2_with fail
      go_ret2
      exact ⟨s, rfl, HF.out⟩
end Go.Proofs.YtcmfkheohhfpiaaGreatDoor

namespace Go.Proofs.YtcmfkheohhfpiaaGreatDoor
open Go.RowKit Go.Hw
/-- A byte as a value. -/
def byV (b : UInt8) : Value := .int .u8 (b.toNat : Int)
theorem byV_cell {w : World} {base g cap : Nat} {l : List UInt8} (h : w.ownsRow base 5 1 (.slice (some ⟨g, 0, none⟩) l.length cap) l.length (l.map byV)) (j : Nat) (hj : j < l.length) : w.cell? ⟨g, j, none⟩ = some (byV l[j]) ∧ w.frozen? ⟨g, j, none⟩ = false := by
  obtain ⟨h1, h2⟩ := h
  rcases h2 with ⟨h3, _⟩ | ⟨g', cap', cur, h3, h4, h5, h6, h7, h8, h9⟩
  · cases h3
  · injection h3 with e1 _ e3
    injection e1 with e1
    injection e1 with e1
    subst e1
    have hc : cur[j]? = some (byV l[j]) := by
      have : (l.map byV)[j]? = some (byV l[j]) := by simp [hj]
      rw [← h9, List.getElem?_take, if_pos (by omega)] at this
      simpa using this
    exact ⟨by simp [World.cell?, h5, hc], by simp [World.frozen?, h5]⟩
set_option maxRecDepth 100000 in
theorem rev_any (base g cap : Nat) (l : List UInt8) (w : World) (h : w.ownsRow base 5 1 (.slice (some ⟨g, 0, none⟩) l.length cap) l.length (l.map byV)) (hg : base ≤ g) (hl : l.length ≤ 100000) :
    Calls Tryz.prog 46 #[.slice (some ⟨g, 0, none⟩) l.length cap] w fun e w' => e = .returned (.tuple #[]) ∧ (∀ j (hj : j < l.reverse.length), w'.cell? ⟨g, j, none⟩ = some (.int .u8 (l.reverse[j].toNat : Int))) ∧ Below base w w' := by
  have hH : Sort.Holds byV w g 0 l.toArray := fun j hj => by
    have hj' : j < l.length := by simpa using hj
    rw [Nat.zero_add, getElem!_pos l.toArray j hj]
    simpa using byV_cell h j hj'
  have hc := AnyE.slices_Reverse Tryz.revB byV (fun _ => rfl) g 0 cap l w hH (by omega)
  change Calls Tryz.prog 46 _ _ _ at hc
  refine hc.mono ?_
  rintro e w' ⟨rfl, n, rfl⟩
  refine ⟨rfl, fun j hj => ?_, ⟨rfl, rfl, rfl, by simp, fun k hk => ?_⟩⟩
  · have := Sort.cell?_putRow byV (Sort.ahead w n) g 0 l.toArray l.reverse.toArray (Sort.holds_ahead byV w n g 0 _ hH) (by simp) j (by simpa using hj)
    rw [Nat.zero_add, getElem!_pos l.reverse.toArray j (by simpa using hj)] at this
    simpa [byV] using this
  · show (Array.modify _ g _)[k]? = _
    rw [Array.getElem?_modify, if_neg (by omega)]
    rfl
/-- The digits as bytes. -/
def dgB (o : List Nat) : List UInt8 := o.map (fun d => UInt8.ofNat (48 + d))
def dgN (l : List UInt8) : List Nat := l.map (fun b => b.toNat - 48)
/-- What stands at a round of the sum. -/
def SsI (W : World) (X Y : List Nat) (v10 v11 v31 : Value) (wr : World) : Prop :=
  ∃ (o : List Nat) (c : Nat), o.length ≤ max X.length Y.length + 1 ∧ v31 = .int .i64 o.length ∧ v11 = .int .i64 c ∧ SumI X Y o c ∧ wr.ownsRow W.heap.size 5 1 v10 o.length ((dgB o).map byV) ∧ Below W.heap.size W wr
theorem infoB : (Tryz.prog.info? 5).map (fun i => (i.zero, i.size, i.bytes)) = some (some (.int .u8 0), 1, 1) := by kernel_rfl
theorem dig_at {x : List UInt8} {i : Nat} (h : digB x) (hi : i < x.length) : ∃ d : Nat, dAt (dgN x) i = d ∧ d < 10 ∧ ∀ hh, ((⟨x.toArray⟩ : ByteArray)[x.length - 1 - i]'hh).toNat = 48 + d := by
  have hm : x[x.length - 1 - i]'(by omega) ∈ x := List.getElem_mem _
  obtain ⟨h1, h2⟩ := h _ hm
  refine ⟨(x[x.length - 1 - i]'(by omega)).toNat - 48, ?_, by omega, fun hh => ?_⟩
  · unfold dAt dgN
    rw [List.length_map, if_pos hi, List.getD_eq_getElem?_getD, List.getElem?_map, List.getElem?_eq_getElem (by omega)]
    rfl
  · show (x.toArray[x.length - 1 - i]'_).toNat = _
    rw [List.getElem_toArray]
    omega
theorem dig_none {x : List UInt8} {i : Nat} (h : ¬ i < x.length) : dAt (dgN x) i = 0 := by
  unfold dAt dgN
  rw [List.length_map, if_neg h]
theorem dgN_lt {x : List UInt8} (h : digB x) : ∀ z ∈ dgN x, z < 10 := fun z hz => by
  obtain ⟨b, hb, rfl⟩ := List.mem_map.1 hz
  have := h b hb
  omega
theorem dgN_len (x : List UInt8) : (dgN x).length = x.length := List.length_map _
theorem dgB_len (o : List Nat) : (dgB o).length = o.length := List.length_map _
theorem ss_next {W wr w4 : World} {x y : List UInt8} {o : List Nat} {c n : Nat} {v v' : Value} {p : Obj} (hs : SumI (dgN x) (dgN y) o c) (ho : wr.ownsRow W.heap.size 5 1 v o.length ((dgB o).map byV)) (hb : Below W.heap.size W wr)
    (hn : n = c + dAt (dgN x) o.length + dAt (dgN y) o.length) (hx : digB x) (hy : digB y) (hl : o.length + 1 ≤ max (dgN x).length (dgN y).length + 1)
    (ho4 : w4.ownsRow W.heap.size 5 1 v' (o.length + 1) ((dgB o).map byV ++ [.int .u8 (48 + n % 10 : Nat)])) (hg4 : (wr.alloc p).grownBy w4 v.ownBlock) : SsI W (dgN x) (dgN y) v' (.int .i64 (n / 10 : Nat)) (.int .i64 (o.length + 1 : Nat)) w4 := by
  have hlt' := World.ownsRow.lt ho
  have hb8 : (UInt8.ofNat (48 + n % 10)).toNat = 48 + n % 10 := by
    rw [UInt8.toNat_ofNat']
    exact Nat.mod_eq_of_lt (by omega)
  refine ⟨o ++ [n % 10], n / 10, by simpa using hl, by simp, rfl, hs.step (dgN_lt hx) (dgN_lt hy) hn, ?_, (hb.alloc hb.size _).grown hg4 (hb.alloc hb.size _).size (fun j hj => by have := (hlt' j hj).1; omega)⟩
  have e : (dgB (o ++ [n % 10])).map byV = (dgB o).map byV ++ [.int .u8 (48 + n % 10 : Nat)] := by
    unfold dgB byV
    rw [List.map_append, List.map_append, List.map_singleton, List.map_singleton, hb8]
  rw [e, List.length_append]
  exact ho4
theorem ss_row {w : World} {base n : Nat} {v : Value} {xs : List Value} (h : w.ownsRow base 5 1 v n xs) (hn : 0 < n) : ∃ g cap, v = .slice (some ⟨g, 0, none⟩) n cap ∧ base ≤ g ∧ True := by
  rcases h.2 with ⟨h3, h4⟩ | ⟨g, cap, cur, h3, h4, _⟩
  · omega
  · exact ⟨g, cap, h3, h4, trivial⟩
theorem dgB_dig {o : List Nat} (h : ∀ z ∈ o, z < 10) : digB (dgB o) ∧ dgN (dgB o) = o := by
  have e : ∀ z, z < 10 → (UInt8.ofNat (48 + z)).toNat = 48 + z := fun z hz => by
    rw [UInt8.toNat_ofNat']
    exact Nat.mod_eq_of_lt (by omega)
  refine ⟨fun b hb => ?_, ?_⟩
  · obtain ⟨z, hz, rfl⟩ := List.mem_map.1 hb
    have := e z (h z hz)
    have := h z hz
    omega
  · unfold dgN dgB
    rw [List.map_map]
    refine (List.map_congr_left fun z hz => ?_).trans (List.map_id o)
    show (UInt8.ofNat (48 + z)).toNat - 48 = z
    rw [e z (h z hz)]
    omega
theorem trim_dig : ∀ {l : List UInt8}, digB l → dgN (l.dropWhile (· == 48)) = (dgN l).dropWhile (· == 0) ∧ digB (l.dropWhile (· == 48)) ∧ (l.dropWhile (· == 48)).head? ≠ some 48
  | [], _ => ⟨rfl, (fun _ h => by cases h), by simp⟩
  | b :: l, h => by
    obtain ⟨q1, q2, q3⟩ := trim_dig (l := l) (fun x hx => h x (by simp [hx]))
    obtain ⟨h1, h2⟩ := h b (by simp)
    by_cases hb : b = 48
    · subst hb
      simp only [List.dropWhile_cons]
      exact ⟨by simpa [dgN, List.dropWhile_cons] using q1, by simpa using q2, by simpa using q3⟩
    · have hb' : (b == 48) = false := by simpa using hb
      have hn : b.toNat ≠ 48 := fun e => hb (by rw [← UInt8.toNat_inj]; exact e)
      have hz : ((b.toNat - 48) == 0) = false := by simp; omega
      rw [List.dropWhile_cons, hb']
      refine ⟨?_, h, by simpa using hb⟩
      simp only [Bool.false_eq_true, if_false, dgN, List.map_cons, List.dropWhile_cons, hz]
set_option maxRecDepth 100000 in
set_option maxHeartbeats 8000000 in
theorem sizes_any (A B : Option Addr) (ca cb : Nat) (L M : List Pf) (SA SB : List Sn) (w : World) (hA : pxAt w A L) (hB : pxAt w B M) (hL : SetIs L SA) (hM : SetIs M SB) (h1 : L.length ≤ 1000) (h2 : M.length ≤ 1000) (ht : Lib.TabIs Tryz.prog w "internal/strconv.uint64pow10" .u64 Lib.pow10Tab) :
    Calls Tryz.prog 23 #[.slice A L.length ca, .slice B M.length cb] w fun e w' => ∃ t : List UInt8, e = .returned (.tuple #[.string ⟨t.toArray⟩, .bool true]) ∧ digB t ∧ t.head? ≠ some 48 ∧ worthB t = lenS SA + lenS SB ∧ Below w.heap.size w w' := by
  obtain ⟨i0, hi0, hz0, hz1, hz2⟩ := info_parts infoB
  have hsA := size_any A ca L SA w hA hL h1 ht
  have HB := Lib.hid hB
  have HM := Lib.hid hM
  have HT := Lib.hid ht
  clear hA hB hM ht
  go_enter Tryz.func23, Tryz.ntmps23
  go_wp2_with fail
  refine hsA.mono ?_
  rintro e w1 ⟨x, rfl, hdx, hwx, hlx, hb1⟩
  have HDX := Lib.hid hdx
  have HWX := Lib.hid hwx
  have HB1 := Lib.hid hb1
  have hsB := size_any B cb M SB w1 (HB.out.below hb1) HM.out h2 (tab_kept HT.out hb1 (Nat.le_refl _))
  clear hsA hdx hwx hb1
  go_wp2_with fail
  refine hsB.mono ?_
  rintro e w2 ⟨y, rfl, hdy, hwy, hly, hb2⟩
  have HDY := Lib.hid hdy
  have HWY := Lib.hid hwy
  have HB2 := Lib.hid (HB1.out.trans (hb2.mono HB1.out.size))
  clear hsB hdy hwy hb2
  go_wp2_with fail
  obtain ⟨K, hK⟩ : ∃ K : Nat, K = max x.length y.length + 1 := ⟨_, rfl⟩
  have HK := Lib.hid hK
  rw [show max (x.length : Int) (y.length : Int) + 1 = (K : Int) by omega]
  have hnew := heap_alloc_new w2 (.cells #[] 5 (0, 0))
  go_loopw [10, 11, 31] (fun v10 v11 v31 wr => SsI w2 (dgN x) (dgN y) v10 v11 v31 wr) (fun _ _ v31 _ => K - (intOf v31).toNat)
  case atStart => exact ⟨[], 0, Nat.zero_le _, rfl, rfl, SumI.start _ _, ⟨rfl, .inr ⟨_, 0, #[], rfl, Nat.le_refl _, hnew, Nat.le_refl _, by unfold maxLen; omega, rfl, rfl⟩⟩, (Below.refl _ _).alloc (Nat.le_refl _) _⟩
  case round =>
    obtain ⟨o, c, ho, rfl, rfl, hS, hO, hb⟩ := hrel
    rw [dgN_len, dgN_len] at ho
    have HS := Lib.hid hS
    have HO := Lib.hid hO
    have HBW := Lib.hid hb
    have hle := hS.le
    have hsz := hb.size
    clear hS hO hb hK hnew
    by_cases hlt : o.length < K
    · have hlK : decide ((o.length : Int) < (K : Int)) = true := by simp; omega
      by_cases hx : o.length < x.length
      · by_cases hy : o.length < y.length
        · have hlx : decide ((o.length : Int) < (x.length : Int)) = true := by simp; omega
          obtain ⟨dx, HXD, hdx, hbx⟩ := dig_at HDX.out hx
          have hsx : (48 : Int) + (dx : Int) - 48 = (dx : Int) := by omega
          have HDX2 := Lib.hid HXD
          clear HXD
          have hly : decide ((o.length : Int) < (y.length : Int)) = true := by simp; omega
          obtain ⟨dy, HYD, hdy, hby⟩ := dig_at HDY.out hy
          have hsy : (48 : Int) + (dy : Int) - 48 = (dy : Int) := by omega
          have HDY2 := Lib.hid HYD
          clear HYD
          go_wp2_with (at_builtin; refine wpList_append_own _ rfl (.tmp 65) (.tmp 70) 96 rfl w2.heap.size 5 i0 (.int .u8 0) 1 1 Tryz.underlying96 hi0 hz0 hz1 hz2 rfl (by decide) _ _ _ rfl (World.ownsRow.alloc HO.out _) ⟨wr.heap.size, 0, none⟩ 1 1 [.int .u8 (48 + (c + dx + dy) % 10 : Nat)] rfl rfl (cells_new wr [.int .u8 (48 + (c + dx + dy) % 10 : Nat)] _) (by simp [Value.oneCell']) (by unfold maxLen; first | omega | (simp; omega)) (by first | omega | (simp; omega)) (by first | omega | (simp; omega) | simp) ?_)
          intro v' w4 ho4 hg4 _
          have HREL := Lib.hid (ss_next (n := c + dx + dy) HS.out HO.out HBW.out (by rw [HDX2.out, HDY2.out]) HDX.out HDY.out (by rw [dgN_len, dgN_len]; have := HK.out; omega) ho4 hg4)
          clear ho4 hg4
          go_wp2_with fail
          exact ⟨HREL.out, by simp [intOf]; omega⟩
        · have hlx : decide ((o.length : Int) < (x.length : Int)) = true := by simp; omega
          obtain ⟨dx, HXD, hdx, hbx⟩ := dig_at HDX.out hx
          have hsx : (48 : Int) + (dx : Int) - 48 = (dx : Int) := by omega
          have HDX2 := Lib.hid HXD
          clear HXD
          have hly : decide ((o.length : Int) < (y.length : Int)) = false := by simp; omega
          have HDY2 := Lib.hid (dig_none hy)
          go_wp2_with (at_builtin; refine wpList_append_own _ rfl (.tmp 65) (.tmp 70) 96 rfl w2.heap.size 5 i0 (.int .u8 0) 1 1 Tryz.underlying96 hi0 hz0 hz1 hz2 rfl (by decide) _ _ _ rfl (World.ownsRow.alloc HO.out _) ⟨wr.heap.size, 0, none⟩ 1 1 [.int .u8 (48 + (c + dx) % 10 : Nat)] rfl rfl (cells_new wr [.int .u8 (48 + (c + dx) % 10 : Nat)] _) (by simp [Value.oneCell']) (by unfold maxLen; first | omega | (simp; omega)) (by first | omega | (simp; omega)) (by first | omega | (simp; omega) | simp) ?_)
          intro v' w4 ho4 hg4 _
          have HREL := Lib.hid (ss_next (n := c + dx) HS.out HO.out HBW.out (by rw [HDX2.out, HDY2.out]; omega) HDX.out HDY.out (by rw [dgN_len, dgN_len]; have := HK.out; omega) ho4 hg4)
          clear ho4 hg4
          go_wp2_with fail
          exact ⟨HREL.out, by simp [intOf]; omega⟩
      · by_cases hy : o.length < y.length
        · have hlx : decide ((o.length : Int) < (x.length : Int)) = false := by simp; omega
          have HDX2 := Lib.hid (dig_none hx)
          have hly : decide ((o.length : Int) < (y.length : Int)) = true := by simp; omega
          obtain ⟨dy, HYD, hdy, hby⟩ := dig_at HDY.out hy
          have hsy : (48 : Int) + (dy : Int) - 48 = (dy : Int) := by omega
          have HDY2 := Lib.hid HYD
          clear HYD
          go_wp2_with (at_builtin; refine wpList_append_own _ rfl (.tmp 65) (.tmp 70) 96 rfl w2.heap.size 5 i0 (.int .u8 0) 1 1 Tryz.underlying96 hi0 hz0 hz1 hz2 rfl (by decide) _ _ _ rfl (World.ownsRow.alloc HO.out _) ⟨wr.heap.size, 0, none⟩ 1 1 [.int .u8 (48 + (c + dy) % 10 : Nat)] rfl rfl (cells_new wr [.int .u8 (48 + (c + dy) % 10 : Nat)] _) (by simp [Value.oneCell']) (by unfold maxLen; first | omega | (simp; omega)) (by first | omega | (simp; omega)) (by first | omega | (simp; omega) | simp) ?_)
          intro v' w4 ho4 hg4 _
          have HREL := Lib.hid (ss_next (n := c + dy) HS.out HO.out HBW.out (by rw [HDX2.out, HDY2.out]; omega) HDX.out HDY.out (by rw [dgN_len, dgN_len]; have := HK.out; omega) ho4 hg4)
          clear ho4 hg4
          go_wp2_with fail
          exact ⟨HREL.out, by simp [intOf]; omega⟩
        · have hlx : decide ((o.length : Int) < (x.length : Int)) = false := by simp; omega
          have HDX2 := Lib.hid (dig_none hx)
          have hly : decide ((o.length : Int) < (y.length : Int)) = false := by simp; omega
          have HDY2 := Lib.hid (dig_none hy)
          go_wp2_with (at_builtin; refine wpList_append_own _ rfl (.tmp 65) (.tmp 70) 96 rfl w2.heap.size 5 i0 (.int .u8 0) 1 1 Tryz.underlying96 hi0 hz0 hz1 hz2 rfl (by decide) _ _ _ rfl (World.ownsRow.alloc HO.out _) ⟨wr.heap.size, 0, none⟩ 1 1 [.int .u8 (48 + (c) % 10 : Nat)] rfl rfl (cells_new wr [.int .u8 (48 + (c) % 10 : Nat)] _) (by simp [Value.oneCell']) (by unfold maxLen; first | omega | (simp; omega)) (by first | omega | (simp; omega)) (by first | omega | (simp; omega) | simp) ?_)
          intro v' w4 ho4 hg4 _
          have HREL := Lib.hid (ss_next (n := c) HS.out HO.out HBW.out (by rw [HDX2.out, HDY2.out]; omega) HDX.out HDY.out (by rw [dgN_len, dgN_len]; have := HK.out; omega) ho4 hg4)
          clear ho4 hg4
          go_wp2_with fail
          exact ⟨HREL.out, by simp [intOf]; omega⟩
    · obtain ⟨g, cap, rfl, hg, hoL⟩ := ss_row HO.out (by have := HK.out; omega)
      have hlK : decide ((o.length : Int) < (K : Int)) = false := by simp; omega
      have hrv := rev_any w2.heap.size g cap (dgB o) wr (by rw [dgB_len]; exact HO.out) hg (by rw [dgB_len]; have := HK.out; omega)
      rw [dgB_len] at hrv
      obtain ⟨hdd, hnn⟩ := dgB_dig HS.out.d
      have hlast := HS.out.last (dgN_lt HDX.out) (dgN_lt HDY.out) (by rw [dgN_len, dgN_len]; have := HK.out; omega)
      have hrn : dgN (dgB o).reverse = o.reverse := by
        have : dgN (dgB o).reverse = (dgN (dgB o)).reverse := by unfold dgN; rw [List.map_reverse]
        rw [this, hnn]
      have hdr : digB (dgB o).reverse := fun b hb => hdd b (List.mem_reverse.1 hb)
      obtain ⟨t1, t2, t3⟩ := trim_dig hdr
      have HF : Hid (digB (Lib.trimLeftB (dgB o).reverse 48) ∧ (Lib.trimLeftB (dgB o).reverse 48).head? ≠ some 48 ∧ worthB (Lib.trimLeftB (dgB o).reverse 48) = lenS SA + lenS SB) := Lib.hid ⟨t2, t3, by
        show worth (dgN ((dgB o).reverse.dropWhile (· == 48))) = _
        rw [t1, worth_trim, hrn, hlast, ← HWX.out, ← HWY.out]
        rfl⟩
      have hrl : (dgB o).reverse.length = o.length := by rw [List.length_reverse, dgB_len]
      clear hdd hnn hlast hrn hdr t1 t2 t3
      generalize (dgB o).reverse = t0 at hrv HF hrl
      clear hle hsz HO hg
      go_wp2_with fail
      refine hrv.mono ?_
      rintro e w4 ⟨rfl, hcell, hb4⟩
      have hcv := run_convert_bytes_back (P := Tryz.prog) w4 96 9 5 ⟨g, 0, none⟩ cap t0 Tryz.underlying96 Tryz.underlying5 Tryz.underlying9 (fun j hj => by rw [Lib.add_plain, Nat.zero_add]; exact hcell j hj)
      rw [hrl] at hcv
      have htr := Tryz.strings_TrimLeft_one ⟨t0.toArray⟩ 48 (by decide) w4
      have HB4 := Lib.hid (HB2.out.trans ((HBW.out.trans hb4).mono HB2.out.size))
      clear hrv hcell hb4
      go_wp2_with fail
      refine htr.mono ?_
      rintro e w5 ⟨rfl, rfl⟩
      generalize Lib.trimLeftB t0 48 = tt at HF ⊢
      go_wp2_with fail
      go_ret2
      exact ⟨tt, rfl, HF.out.1, HF.out.2.1, HF.out.2.2, HB4.out⟩
end Go.Proofs.YtcmfkheohhfpiaaGreatDoor
