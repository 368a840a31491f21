/- Addresses and prefixes as numbers. Addresses on one line of numbers. Sets on the line of addresses: the rest, is it there. Prefixes of ranges: the plain steps of the walk. -/
import Derived.Test.YtajifionclpphaaGreatDoorTbK
import Derived.Test.YtajifionclpphaaGreatDoorTbP
import Derived.Test.YtajifionclpphaaGreatDoorAdR
import Derived.Test.YtajifionclpphaaGreatDoorStR
namespace Go.Proofs.YtajifionclpphaaGreatDoor
open Go.RowKit Go.Hw
def nOf (h l : Int) : Nat := (h * 18446744073709551616 + l).toNat
def pxOf (s : Bool) (h l b : Int) : Px := ⟨s, nOf h l, (lenA s - b).toNat⟩
theorem nOf_nat (H L : Nat) : nOf H L = H * 18446744073709551616 + L := by unfold nOf; omega
theorem nOf_inj {h l h' l' : Int} (uh : U64 h) (ul : U64 l) (uh' : U64 h') (ul' : U64 l') (e : nOf h l = nOf h' l') : h = h' ∧ l = l' := by
  unfold nOf U64 at *
  omega
theorem clr_nat (X m : Nat) : clr (X : Int) m = ((X / 2 ^ m * 2 ^ m : Nat) : Int) := by unfold clr; simp
theorem floor_two (H L m : Nat) (hL : L < 18446744073709551616) : (H / 2 ^ (m - 64) * 2 ^ (m - 64)) * 18446744073709551616 + L / 2 ^ (min 64 m) * 2 ^ (min 64 m) = (H * 18446744073709551616 + L) / 2 ^ m * 2 ^ m := by
  have h64 : (18446744073709551616 : Nat) = 2 ^ 64 := by decide
  rcases Nat.le_total m 64 with hm | hm
  · have e1 : m - 64 = 0 := by omega
    have e2 : min 64 m = m := by omega
    have e3 : (2 : Nat) ^ 64 = 2 ^ m * 2 ^ (64 - m) := by rw [← Nat.pow_add]; congr 1; omega
    rw [e1, e2, Nat.pow_zero, Nat.div_one, Nat.mul_one, h64, e3]
    have e4 : H * (2 ^ m * 2 ^ (64 - m)) + L = 2 ^ m * (H * 2 ^ (64 - m)) + L := by rw [Nat.mul_left_comm]
    rw [e4, Nat.mul_add_div (Nat.two_pow_pos m), Nat.add_mul, Nat.mul_assoc H, Nat.mul_comm (2 ^ (64 - m)) (2 ^ m)]
  · obtain ⟨d, rfl⟩ := Nat.exists_eq_add_of_le hm
    have e1 : 64 + d - 64 = d := by omega
    have e2 : min 64 (64 + d) = 64 := by omega
    have e5 : L / 2 ^ 64 = 0 := Nat.div_eq_of_lt (by rw [← h64]; exact hL)
    have e6 : (H * 2 ^ 64 + L) / 2 ^ 64 = H := by
      rw [Nat.mul_comm, Nat.mul_add_div (Nat.two_pow_pos 64), e5, Nat.add_zero]
    rw [e1, e2, h64, e5, Nat.zero_mul, Nat.add_zero, Nat.pow_add, ← Nat.div_div_eq_div_mul, e6, Nat.mul_comm (2 ^ 64) (2 ^ d), Nat.mul_assoc]
theorem nOf_clr {h l : Int} (uh : U64 h) (ul : U64 l) (m : Nat) : nOf (clr h (m - 64)) (clr l (min 64 m)) = nOf h l / 2 ^ m * 2 ^ m := by
  obtain ⟨H, rfl⟩ := Int.eq_ofNat_of_zero_le uh.1
  obtain ⟨L, rfl⟩ := Int.eq_ofNat_of_zero_le ul.1
  rw [clr_nat, clr_nat, nOf_nat, nOf_nat]
  exact floor_two H L m (by have := ul.2; omega)
theorem right_al {s : Bool} {h l b : Int} (H : PfRight s h l b) : (pxOf s h l b).al := by
  obtain ⟨hf, -, m, hm, hm2, h1, h2⟩ := H
  have hmm : (lenA s - b).toNat = m := by omega
  have := nOf_clr hf.1 hf.2.1 m
  rw [h1, h2] at this
  unfold pxOf Px.al
  simp only
  rw [hmm, this]
  exact Nat.dvd_mul_left _ _
/-- The program's test is the one on numbers. -/
theorem cont_has {s : Bool} {h l b : Int} (H : PfRight s h l b) {s' : Bool} {h' l' : Int} (uh' : U64 h') (ul' : U64 l') : contP s h l b s' h' l' = true ↔ (pxOf s h l b).has s' (nOf h' l') := by
  rw [Px.first (right_al H)]
  have hal := H
  obtain ⟨hf, -, m, hm, hm2, h1, h2⟩ := H
  have hmm : (lenA s - b).toNat = m := by omega
  unfold contP pxOf
  simp only [Bool.and_eq_true, decide_eq_true_eq]
  rw [hmm, ← nOf_clr uh' ul' m]
  constructor
  · rintro ⟨e1, e2, e3⟩
    exact ⟨e1, by rw [e2, e3]⟩
  · rintro ⟨e1, e2⟩
    exact ⟨e1, nOf_inj (clr_u64 uh' _) (clr_u64 ul' _) hf.1 hf.2.1 e2⟩
theorem dvd_gap {d X M : Nat} (h1 : d ∣ X) (h2 : d ∣ M) (h3 : X < M) : X + d ≤ M := by
  obtain ⟨a, rfl⟩ := h1
  obtain ⟨b, rfl⟩ := h2
  have : a < b := Nat.lt_of_mul_lt_mul_left h3
  rw [← Nat.mul_succ]
  exact Nat.mul_le_mul_left d this
theorem lowM_nat (k : Nat) : lowM k = ((2 ^ k - 1 : Nat) : Int) := by
  unfold lowM
  have h3 : 1 ≤ (2 : Nat) ^ k := Nat.one_le_two_pow
  have e' : (2 : Int) ^ k = ((2 ^ k : Nat) : Int) := by simp
  rw [e']
  generalize (2 : Nat) ^ k = P at *
  omega
theorem last_sum (X Y : Nat) {P1 P2 P3 : Nat} (h : (P1 - 1) * 18446744073709551616 + (P2 - 1) = P3 - 1) : (X + (P1 - 1)) * 18446744073709551616 + (Y + (P2 - 1)) = X * 18446744073709551616 + Y + (P3 - 1) := by
  rw [Nat.add_mul, ← h]
  exact Nat.add_add_add_comm _ _ _ _
/-- The last address of a right prefix. -/
theorem last_num {s : Bool} {h l b : Int} (H : PfRight s h l b) : ∃ m : Nat, lenA s - b = m ∧ m ≤ 128 ∧ nOf (fil h (m - 64)) (fil l (min 64 m)) = nOf h l + (2 ^ m - 1) ∧ AddrFine s (fil h (m - 64)) (fil l (min 64 m)) := by
  have hal := right_al H
  obtain ⟨hf, hb0, m, hm, hm2, h1, h2⟩ := H
  refine ⟨m, hm, hm2, ?_⟩
  unfold fil
  rw [h1, h2, lowM_nat, lowM_nat]
  have hmm : (lenA s - b).toNat = m := by omega
  unfold pxOf Px.al at hal
  simp only at hal
  rw [hmm] at hal
  obtain ⟨X, rfl⟩ := Int.eq_ofNat_of_zero_le hf.1.1
  obtain ⟨Y, rfl⟩ := Int.eq_ofNat_of_zero_le hf.2.1.1
  have hX := hf.1.2
  have hY := hf.2.1.2
  rw [clr_nat] at h1 h2
  have d1 : 2 ^ (m - 64) ∣ X := ⟨X / 2 ^ (m - 64), by have := Int.ofNat.inj h1; rw [Nat.mul_comm]; exact this.symm⟩
  have d2 : 2 ^ (min 64 m) ∣ Y := ⟨Y / 2 ^ (min 64 m), by have := Int.ofNat.inj h2; rw [Nat.mul_comm]; exact this.symm⟩
  have k1 : (2 : Nat) ^ (m - 64) ∣ 18446744073709551616 := by
    rw [show (18446744073709551616 : Nat) = 2 ^ 64 by decide]; exact Nat.pow_dvd_pow 2 (by omega)
  have k2 : (2 : Nat) ^ (min 64 m) ∣ 18446744073709551616 := by
    rw [show (18446744073709551616 : Nat) = 2 ^ 64 by decide]; exact Nat.pow_dvd_pow 2 (by omega)
  have b1 : X + 2 ^ (m - 64) ≤ 18446744073709551616 := dvd_gap d1 k1 (by omega)
  have b2 : Y + 2 ^ (min 64 m) ≤ 18446744073709551616 := dvd_gap d2 k2 (by omega)
  have p1 := Nat.two_pow_pos (m - 64)
  have p2 := Nat.two_pow_pos (min 64 m)
  rw [← Int.natCast_add, ← Int.natCast_add, nOf_nat, nOf_nat]
  have hsum : (2 ^ (m - 64) - 1) * 18446744073709551616 + (2 ^ (min 64 m) - 1) = 2 ^ m - 1 := by
    rcases Nat.le_total m 64 with h64 | h64
    · rw [show m - 64 = 0 by omega, show min 64 m = m by omega]; simp
    · obtain ⟨d, rfl⟩ := Nat.exists_eq_add_of_le h64
      have e : (18446744073709551616 : Nat) = 2 ^ 64 := by decide
      rw [show 64 + d - 64 = d by omega, show min 64 (64 + d) = 64 by omega, Nat.pow_add, ← e]
      have := Nat.two_pow_pos d
      generalize 2 ^ d = D at *
      omega
  refine ⟨last_sum X Y hsum, ⟨by omega, by omega⟩, ⟨by omega, by omega⟩, fun hs => ?_⟩
  obtain ⟨e1, e2⟩ := hf.2.2 hs
  subst hs
  have hm32 : m ≤ 32 := by unfold lenA at hm; simp at hm; omega
  have k3 : (2 : Nat) ^ (min 64 m) ∣ 4294967296 := by
    rw [show (4294967296 : Nat) = 2 ^ 32 by decide]; exact Nat.pow_dvd_pow 2 (by omega)
  have b3 : Y + 2 ^ (min 64 m) ≤ 4294967296 := dvd_gap d2 k3 (by omega)
  rw [show m - 64 = 0 by omega]
  omega
theorem low_four : lowM (min 64 (lenA false).toNat) = 4294967295 ∧ lowM ((lenA false).toNat - 64) = 0 ∧ 2 ^ lenN false = 4294967296 := by decide +kernel
theorem low_six : lowM (min 64 (lenA true).toNat) = 18446744073709551615 ∧ lowM ((lenA true).toNat - 64) = 18446744073709551615 ∧ 2 ^ lenN true = 340282366920938463463374607431768211456 := by decide +kernel
theorem end_num {s : Bool} {h l : Int} (hf : AddrFine s h l) : endA s h l = decide (nOf h l + 1 = 2 ^ lenN s) := by
  obtain ⟨h1, h2, h3⟩ := hf
  unfold endA nOf
  cases s
  · obtain ⟨h4, h5⟩ := h3 rfl
    obtain ⟨e1, e2, e3⟩ := low_four
    rw [e1, e2, e3, Bool.eq_iff_iff]
    simp only [Bool.and_eq_true, decide_eq_true_eq]
    omega
  · obtain ⟨e1, e2, e3⟩ := low_six
    rw [e1, e2, e3, Bool.eq_iff_iff]
    simp only [Bool.and_eq_true, decide_eq_true_eq]
    omega
theorem nx_num {s : Bool} {h l : Int} (hf : AddrFine s h l) (he : endA s h l = false) : nOf (nxH h l) (nxL l) = nOf h l + 1 ∧ AddrFine s (nxH h l) (nxL l) := by
  rw [end_num hf] at he
  obtain ⟨h1, h2, h3⟩ := hf
  unfold nxH nxL nOf AddrFine at *
  simp only [decide_eq_false_iff_not] at he
  cases s
  · obtain ⟨h4, h5⟩ := h3 rfl
    obtain ⟨-, -, e3⟩ := low_four
    rw [e3] at he
    refine ⟨?_, ?_, ?_, fun _ => ?_⟩ <;> (split <;> omega)
  · obtain ⟨-, -, e3⟩ := low_six
    rw [e3] at he
    refine ⟨?_, ?_, ?_, fun e => by cases e⟩ <;> (split <;> omega)
theorem fine_num {s : Bool} {h l : Int} (hf : AddrFine s h l) : nOf h l < 2 ^ lenN s := by
  obtain ⟨h1, h2, h3⟩ := hf
  unfold nOf
  cases s
  · obtain ⟨h4, h5⟩ := h3 rfl
    rw [low_four.2.2]
    omega
  · rw [low_six.2.2]
    omega
end Go.Proofs.YtajifionclpphaaGreatDoor

namespace Go.Proofs.YtajifionclpphaaGreatDoor
open Go.RowKit Go.Hw
/-- Where an address lies: those that are Six lie far behind the others. -/
def sixAt : Nat := 2 ^ 200
def keyN (s : Bool) (n : Nat) : Nat := (if s then sixAt else 0) + n
def keyA (x : Ad) : Nat := keyN x.six (nOf x.hi x.lo)
def fineA (x : Ad) : Prop := AddrFine x.six x.hi x.lo
def famE (s : Bool) : Nat := keyN s (2 ^ lenN s)
def inU (n : Nat) : Prop := n < famE false ∨ (sixAt ≤ n ∧ n < famE true)
theorem sixAt_big : 2 ^ 128 + 2 ^ 128 + 2 < sixAt := by unfold sixAt; decide
theorem lenN_le (s : Bool) : 2 ^ lenN s ≤ 2 ^ 128 := by cases s <;> decide
theorem keyN_lt {s : Bool} {n : Nat} (h : n < 2 ^ lenN s) : inU (keyN s n) ∧ keyN s n < famE s := by
  unfold inU famE keyN
  cases s
  · simp only [Bool.false_eq_true, if_false, Nat.zero_add]
    exact ⟨.inl h, h⟩
  · simp only [if_true]
    exact ⟨.inr ⟨by omega, by omega⟩, by omega⟩
theorem keyA_lt {x : Ad} (h : fineA x) : inU (keyA x) ∧ keyA x < famE x.six := keyN_lt (fine_num h)
theorem keyN_inj {s s' : Bool} {n n' : Nat} (h : n < 2 ^ lenN s) (h' : n' < 2 ^ lenN s') (e : keyN s n = keyN s' n') : s = s' ∧ n = n' := by
  have h1 := sixAt_big
  have h2 := lenN_le s
  have h3 := lenN_le s'
  unfold keyN at e
  cases s <;> cases s' <;> simp only [Bool.false_eq_true, if_false, if_true, Nat.zero_add] at e
  · exact ⟨rfl, e⟩
  · omega
  · omega
  · exact ⟨rfl, by omega⟩
theorem keyA_inj {x y : Ad} (hx : fineA x) (hy : fineA y) (e : keyA x = keyA y) : x = y := by
  obtain ⟨h1, h2⟩ := keyN_inj (fine_num hx) (fine_num hy) e
  obtain ⟨h3, h4⟩ := nOf_inj hx.1 hx.2.1 hy.1 hy.2.1 h2
  obtain ⟨s, h, l⟩ := x
  obtain ⟨s', h', l'⟩ := y
  simp_all
/-- The order of addresses is the order on the line. -/
theorem nOf_lt {h l h' l' : Int} (uh : U64 h) (ul : U64 l) (uh' : U64 h') (ul' : U64 l') : nOf h l < nOf h' l' ↔ h < h' ∨ (h = h' ∧ l < l') := by
  unfold nOf U64 at *
  omega
theorem spanC_key {x y : Ad} (hx : fineA x) (hy : fineA y) : (spanC x.six x.hi x.lo y.six y.hi y.lo < 0 ↔ keyA x < keyA y) ∧ (spanC x.six x.hi x.lo y.six y.hi y.lo = 0 ↔ keyA x = keyA y) ∧ (0 < spanC x.six x.hi x.lo y.six y.hi y.lo ↔ keyA y < keyA x) := by
  have h1 := sixAt_big
  have h2 := lenN_le x.six
  have h3 := lenN_le y.six
  have n1 := fine_num hx
  have n2 := fine_num hy
  have l1 := nOf_lt hx.1 hx.2.1 hy.1 hy.2.1
  have l2 := nOf_lt hy.1 hy.2.1 hx.1 hx.2.1
  unfold keyA keyN spanC
  generalize hA : nOf x.hi x.lo = A at *
  generalize hB : nOf y.hi y.lo = B at *
  obtain ⟨s, h, l⟩ := x
  obtain ⟨s', h', l'⟩ := y
  dsimp only at *
  by_cases hs : s = s'
  · subst hs
    rw [if_pos rfl]
    have hk : ∀ c : Int, ((c < 0 ↔ A < B) ∧ (c = 0 ↔ A = B) ∧ (0 < c ↔ B < A)) → ((c < 0 ↔ (if s = true then sixAt else 0) + A < (if s = true then sixAt else 0) + B) ∧ (c = 0 ↔ (if s = true then sixAt else 0) + A = (if s = true then sixAt else 0) + B) ∧ (0 < c ↔ (if s = true then sixAt else 0) + B < (if s = true then sixAt else 0) + A)) := by
      intro c hc
      generalize (if s = true then sixAt else 0) = D
      omega
    apply hk
    have heq : A = B ↔ ¬ (h < h' ∨ (h = h' ∧ l < l')) ∧ ¬ (h' < h ∨ (h' = h ∧ l' < l)) := by omega
    rw [l1, l2, heq]
    unfold orOf cmpI
    by_cases c1 : h < h' <;> by_cases c2 : h' < h <;> by_cases c3 : l < l' <;> by_cases c4 : l' < l <;> simp [c1, c2, c3, c4, orOf] <;> omega
  · cases s <;> cases s'
    · exact absurd rfl hs
    · simp
      omega
    · simp
      omega
    · exact absurd rfl hs
/-! ### the next one -/
theorem next_key {x : Ad} (hx : fineA x) (he : endA x.six x.hi x.lo = false) : keyA ⟨x.six, nxH x.hi x.lo, nxL x.lo⟩ = keyA x + 1 ∧ fineA ⟨x.six, nxH x.hi x.lo, nxL x.lo⟩ := by
  obtain ⟨h1, h2⟩ := nx_num hx he
  refine ⟨?_, h2⟩
  show keyN x.six (nOf (nxH x.hi x.lo) (nxL x.lo)) = keyN x.six (nOf x.hi x.lo) + 1
  rw [h1]
  unfold keyN
  omega
theorem end_key {x : Ad} (hx : fineA x) : endA x.six x.hi x.lo = decide (keyA x + 1 = famE x.six) := by
  rw [end_num hx]
  unfold keyA famE keyN
  rw [decide_eq_decide]
  omega
/-! ### prefixes are blocks -/
structure Pf where
  six : Bool
  hi : Int
  lo : Int
  bits : Int
def noPf : Pf := ⟨false, 0, 0, 0⟩
def okP (p : Pf) : Prop := PfRight p.six p.hi p.lo p.bits
def adP (p : Pf) : Ad := ⟨p.six, p.hi, p.lo⟩
def bkP (p : Pf) : Bk := (keyA (adP p), (lenA p.six - p.bits).toNat)
theorem bkP_al {p : Pf} (h : okP p) : alB (bkP p) ∧ (bkP p).2 ≤ 128 ∧ (bkP p).1 + 2 ^ (bkP p).2 ≤ famE p.six := by
  have hm : (lenA p.six - p.bits).toNat ≤ lenN p.six := by
    obtain ⟨_, h0, m, hm, _⟩ := h
    have : (lenN p.six : Int) = lenA p.six := by unfold lenN lenA; split <;> rfl
    omega
  have hm2 : lenN p.six ≤ 128 := by unfold lenN; split <;> decide
  have hal := right_al h
  have hal : 2 ^ (lenA p.six - p.bits).toNat ∣ nOf p.hi p.lo := hal
  have hlt := fine_num h.1
  refine ⟨?_, by show (lenA p.six - p.bits).toNat ≤ 128; omega, ?_⟩
  · show 2 ^ (lenA p.six - p.bits).toNat ∣ keyN p.six (nOf p.hi p.lo)
    unfold keyN
    refine Nat.dvd_add ?_ hal
    split
    · exact Nat.pow_dvd_pow 2 (by omega)
    · exact Nat.dvd_zero _
  · show keyN p.six (nOf p.hi p.lo) + 2 ^ (lenA p.six - p.bits).toNat ≤ famE p.six
    obtain ⟨d, hd⟩ : ∃ d, lenN p.six = (lenA p.six - p.bits).toNat + d := ⟨lenN p.six - (lenA p.six - p.bits).toNat, by omega⟩
    unfold famE keyN
    generalize (lenA p.six - p.bits).toNat = m at *
    rw [hd, Nat.pow_add] at hlt ⊢
    obtain ⟨q, hq⟩ := hal
    rw [hq] at hlt ⊢
    have hq2 : q < 2 ^ d := Nat.lt_of_mul_lt_mul_left hlt
    have := Nat.mul_le_mul_left (2 ^ m) (show q + 1 ≤ 2 ^ d from hq2)
    rw [Nat.mul_add, Nat.mul_one] at this
    omega
theorem bkP_inj {p q : Pf} (hp : okP p) (hq : okP q) (e : bkP p = bkP q) : p = q := by
  have h1 := congrArg Prod.fst e
  have h2 := congrArg Prod.snd e
  have h3 := keyA_inj (x := adP p) (y := adP q) hp.1 hq.1 h1
  have b1 : 0 ≤ p.bits ∧ p.bits ≤ lenA p.six := by obtain ⟨_, h0, m, hm, _⟩ := hp; exact ⟨h0, by omega⟩
  have b2 : 0 ≤ q.bits ∧ q.bits ≤ lenA q.six := by obtain ⟨_, h0, m, hm, _⟩ := hq; exact ⟨h0, by omega⟩
  obtain ⟨s, h, l, b⟩ := p
  obtain ⟨s', h', l', b'⟩ := q
  simp only [adP, Ad.mk.injEq] at h3
  obtain ⟨rfl, rfl, rfl⟩ := h3
  simp only [bkP] at h2
  dsimp only at b1 b2 h2
  have : b = b' := by omega
  rw [this]
/-! ### ranges -/
structure Rg where
  six : Bool
  hi : Int
  lo : Int
  six2 : Bool
  hi2 : Int
  lo2 : Int
def noRg : Rg := ⟨false, 0, 0, false, 0, 0⟩
def fiR (r : Rg) : Ad := ⟨r.six, r.hi, r.lo⟩
def laR (r : Rg) : Ad := ⟨r.six2, r.hi2, r.lo2⟩
def rgS (r : Rg) : Sn := (keyA (fiR r), keyA (laR r) + 1)
structure okR (r : Rg) : Prop where
  f : fineA (fiR r)
  l : fineA (laR r)
  six : r.six2 = r.six
  le : keyA (fiR r) ≤ keyA (laR r)
end Go.Proofs.YtajifionclpphaaGreatDoor

namespace Go.Proofs.YtajifionclpphaaGreatDoor
open Go.RowKit Go.Hw
/-- Which family? -/
def sixS (x : Sn) : Bool := decide (sixAt ≤ x.1)
/-- A range in one family. -/
def famOk (x : Sn) : Prop := (sixS x = false ∧ x.2 ≤ famE false) ∨ (sixS x = true ∧ x.2 ≤ famE true)
theorem famE_false : famE false = 2 ^ 32 := by unfold famE keyN lenN; simp
theorem famE_true : famE true = sixAt + 2 ^ 128 := by unfold famE keyN lenN; simp
theorem fam_apart : famE false < sixAt := by rw [famE_false]; have := sixAt_big; omega
theorem keyN_six {s : Bool} {n : Nat} (h : n < 2 ^ lenN s) : decide (sixAt ≤ keyN s n) = s := by
  have h1 := sixAt_big
  have h2 := lenN_le s
  unfold keyN
  cases s
  · simp; omega
  · simp
theorem rgS_fam {r : Rg} (h : okR r) : famOk (rgS r) ∧ sixS (rgS r) = r.six := by
  have hs : sixS (rgS r) = r.six := keyN_six (fine_num h.f)
  have hl := (keyA_lt h.l).2
  have e : (laR r).six = r.six := h.six
  rw [e] at hl
  refine ⟨?_, hs⟩
  unfold famOk
  rw [hs]
  cases hq : r.six <;> rw [hq] at hl
  · exact .inl ⟨rfl, hl⟩
  · exact .inr ⟨rfl, hl⟩
def famS (s : Bool) (S : List Sn) : List Sn := S.filter (fun x => sixS x == s)
def restS (S : List Sn) : List Sn := restG (famE false) 0 true (famS false S) ++ restG (famE true) sixAt true (famS true S)
theorem NormS.sub {S T : List Sn} (h : NormS S) (hs : T.Sublist S) : NormS T := ⟨fun x hx => h.ok x (hs.subset hx), h.gap.sublist hs⟩
theorem famS_has {S : List Sn} (hf : ∀ x ∈ S, famOk x) (s : Bool) (n : Nat) : hasS (famS s S) n ↔ hasS S n ∧ (if s then sixAt ≤ n else n < famE false) := by
  have ha := fam_apart
  constructor
  · rintro ⟨x, hx, h1, h2⟩
    obtain ⟨hx, hs⟩ := List.mem_filter.1 hx
    refine ⟨⟨x, hx, h1, h2⟩, ?_⟩
    have hs : sixS x = s := by simpa using hs
    rcases hf x hx with ⟨h3, h4⟩ | ⟨h3, h4⟩
    · rw [← hs, h3]; simp; omega
    · rw [← hs, h3]
      have : sixAt ≤ x.1 := by unfold sixS at h3; exact of_decide_eq_true h3
      simp; omega
  · rintro ⟨⟨x, hx, h1, h2⟩, h3⟩
    refine ⟨x, List.mem_filter.2 ⟨hx, ?_⟩, h1, h2⟩
    rcases hf x hx with ⟨h4, h5⟩ | ⟨h4, h5⟩
    · cases s
      · rw [h4]; rfl
      · simp at h3; omega
    · have : sixAt ≤ x.1 := by unfold sixS at h4; exact of_decide_eq_true h4
      cases s
      · simp at h3; omega
      · rw [h4]; rfl
/-- What is not there. -/
theorem restS_law {S : List Sn} (hS : NormS S) (hf : ∀ x ∈ S, famOk x) : NormS (restS S) ∧ (∀ n, hasS (restS S) n ↔ inU n ∧ ¬ hasS S n) ∧ ∀ x ∈ restS S, famOk x := by
  have ha := fam_apart
  have e0 : decide (0 < famE false) = true := by rw [famE_false]; decide
  have e1 : decide (sixAt < famE true) = true := by rw [famE_true]; simp
  obtain ⟨p1, p2, p3⟩ := restG_law (famE false) (famS false S) 0 (hS.sub List.filter_sublist) (fun x hx => by
    obtain ⟨hx, hs⟩ := List.mem_filter.1 hx
    have hs : sixS x = false := by simpa using hs
    rcases hf x hx with ⟨h3, h4⟩ | ⟨h3, h4⟩
    · exact ⟨Nat.zero_le _, h4⟩
    · rw [hs] at h3; cases h3) (Nat.zero_le _)
  obtain ⟨q1, q2, q3⟩ := restG_law (famE true) (famS true S) sixAt (hS.sub List.filter_sublist) (fun x hx => by
    obtain ⟨hx, hs⟩ := List.mem_filter.1 hx
    have hs : sixS x = true := by simpa using hs
    rcases hf x hx with ⟨h3, h4⟩ | ⟨h3, h4⟩
    · rw [hs] at h3; cases h3
    · refine ⟨?_, h4⟩
      unfold sixS at hs; exact of_decide_eq_true hs) (by rw [famE_true]; omega)
  rw [e0] at p1 p2 p3
  rw [e1] at q1 q2 q3
  unfold restS
  refine ⟨⟨fun x hx => ?_, List.pairwise_append.2 ⟨p1.gap, q1.gap, fun x hx y hy => ?_⟩⟩, fun n => ?_, fun x hx => ?_⟩
  · exact (List.mem_append.1 hx).elim (p1.ok x) (q1.ok x)
  · have := (p3 x hx).2
    have := (q3 y hy).1
    omega
  · rw [hasS_append, p2 n, q2 n, famS_has hf false n, famS_has hf true n]
    unfold inU
    simp only [Bool.false_eq_true, if_false, if_true]
    constructor
    · rintro (⟨h1, h2⟩ | ⟨h1, h2⟩)
      · exact ⟨.inl h1.2, fun h3 => h2 ⟨h3, h1.2⟩⟩
      · exact ⟨.inr h1, fun h3 => h2 ⟨h3, h1.1⟩⟩
    · rintro ⟨h1 | h1, h2⟩
      · exact .inl ⟨⟨Nat.zero_le _, h1⟩, fun h3 => h2 h3.1⟩
      · exact .inr ⟨h1, fun h3 => h2 h3.1⟩
  · rcases List.mem_append.1 hx with h | h
    · have h1 := p3 x h
      have h2 := p1.ok x h
      refine .inl ⟨?_, h1.2⟩
      unfold sixS
      rw [decide_eq_false_iff_not]
      omega
    · have h1 := q3 x h
      refine .inr ⟨?_, h1.2⟩
      unfold sixS
      rw [decide_eq_true_eq]
      exact h1.1
/-! ### how many -/
theorem famOk_len {x : Sn} (h : famOk x) : x.2 ≤ x.1 + 2 ^ 128 := by
  rcases h with ⟨h1, h2⟩ | ⟨h1, h2⟩
  · rw [famE_false] at h2
    have : (2 : Nat) ^ 32 ≤ 2 ^ 128 := by decide
    omega
  · rw [famE_true] at h2
    have : sixAt ≤ x.1 := by unfold sixS at h1; exact of_decide_eq_true h1
    omega
/-- The two families as blocks. -/
def allB : List Bk := [(0, 32), (sixAt, 128)]
theorem allB_row : RowB allB := by
  refine ⟨fun b hb => ?_, ?_⟩
  · simp only [allB, List.mem_cons, List.not_mem_nil, or_false] at hb
    rcases hb with rfl | rfl
    · exact ⟨⟨0, rfl⟩, by decide⟩
    · exact ⟨Nat.pow_dvd_pow 2 (by omega), Nat.le_refl _⟩
  · have := sixAt_big
    have h2 : (2 : Nat) ^ 32 ≤ 2 ^ 128 := by decide
    simp only [allB, List.pairwise_cons, List.mem_cons, List.not_mem_nil, or_false, forall_eq, List.Pairwise.nil, and_true]
    exact ⟨by show 0 + 2 ^ 32 ≤ sixAt; omega, by intro a ha; cases ha⟩
theorem allB_has (n : Nat) : hasS (allB.map bkS) n ↔ inU n := by
  unfold allB inU
  rw [List.map_cons, hasS_cons, List.map_cons, hasS_cons, famE_false, famE_true]
  show (0 ≤ n ∧ n < 0 + 2 ^ 32) ∨ (sixAt ≤ n ∧ n < sixAt + 2 ^ 128) ∨ hasS [] n ↔ _
  constructor
  · rintro (h | h | h)
    · exact .inl (by omega)
    · exact .inr h
    · exact absurd h (hasS_nil n)
  · rintro (h | h)
    · exact .inl ⟨Nat.zero_le _, by omega⟩
    · exact .inr (.inl h)
theorem less_many {L B : List Bk} (hL : RowB L) (hB : ∀ b ∈ B, alB b) {T : List Sn} (hT : NormS T) (hf : ∀ x ∈ T, famOk x) (h : ∀ n, hasS T n ↔ hasS (L.map bkS) n ∧ ¬ hasS (B.map bkS) n) : (preS T).length ≤ L.length + 127 * B.length := by
  obtain ⟨q1, q2, q3⟩ := cutAll_law B L hL hB
  have := preS_least hT (fun x hx => famOk_len (hf x hx)) (fun b hb => (q2.al b hb).1) (fun n => by rw [q1 n, h n])
  omega
theorem preS_row {S : List Sn} (hS : NormS S) : RowB (preS S) := ⟨fun b hb => by
  obtain ⟨x, _, h⟩ := preS_in hb
  exact ⟨(preG_in h).1, (preG_in h).2.1⟩, preS_sorted hS⟩
end Go.Proofs.YtajifionclpphaaGreatDoor

namespace Go.Proofs.YtajifionclpphaaGreatDoor
open Go.RowKit Go.Hw
theorem lenN_A (s : Bool) : (lenN s : Int) = lenA s := by unfold lenN lenA; split <;> rfl
theorem lenN_128 (s : Bool) : lenN s ≤ 128 := by unfold lenN; split <;> decide
theorem key_al {x : Ad} {m : Nat} (hm : m ≤ 128) : 2 ^ m ∣ keyA x ↔ 2 ^ m ∣ nOf x.hi x.lo := by
  unfold keyA keyN
  split
  · have h : 2 ^ m ∣ sixAt := Nat.pow_dvd_pow 2 (by omega)
    exact (Nat.dvd_add_right h)
  · rw [Nat.zero_add]
theorem mask_al {x : Ad} (hx : fineA x) {m : Nat} (hm : m ≤ 128) : (clr x.hi (m - 64) = x.hi ∧ clr x.lo (min 64 m) = x.lo) ↔ 2 ^ m ∣ keyA x := by
  rw [key_al hm]
  have h := nOf_clr hx.1 hx.2.1 m
  constructor
  · rintro ⟨h1, h2⟩
    rw [h1, h2] at h
    rw [h]
    exact Nat.dvd_mul_left _ _
  · intro hd
    rw [Nat.div_mul_cancel hd] at h
    exact nOf_inj (clr_u64 hx.1 _) (clr_u64 hx.2.1 _) hx.1 hx.2.1 h
theorem right_of {x : Ad} (hx : fineA x) {m : Nat} (hm : m ≤ lenN x.six) (hd : 2 ^ m ∣ keyA x) : PfRight x.six x.hi x.lo (lenA x.six - m) := by
  have h1 := lenN_A x.six
  have h2 := lenN_128 x.six
  obtain ⟨h3, h4⟩ := (mask_al hx (m := m) (by omega)).2 hd
  exact ⟨hx, by omega, m, by omega, by omega, h3, h4⟩
/-- The last address of a block. -/
theorem fill_key {x : Ad} (hx : fineA x) {m : Nat} (hm : m ≤ lenN x.six) (hd : 2 ^ m ∣ keyA x) : fineA ⟨x.six, fil x.hi (m - 64), fil x.lo (min 64 m)⟩ ∧ keyA ⟨x.six, fil x.hi (m - 64), fil x.lo (min 64 m)⟩ + 1 = keyA x + 2 ^ m := by
  have h1 := lenN_A x.six
  have h2 := lenN_128 x.six
  obtain ⟨m', e1, e2, e3, e4⟩ := last_num (right_of hx hm hd)
  have : m' = m := by omega
  subst this
  refine ⟨e4, ?_⟩
  have hp := Nat.two_pow_pos m'
  show keyN x.six (nOf (fil x.hi (m' - 64)) (fil x.lo (min 64 m'))) + 1 = keyN x.six (nOf x.hi x.lo) + 2 ^ m'
  rw [e3]
  unfold keyN
  omega
theorem key_fam (x : Ad) : famE x.six ≤ keyA x + 2 ^ lenN x.six := by
  unfold famE keyA keyN
  omega
theorem grow_stop {x : Ad} {e m : Nat} (he : e ≤ famE x.six) (hm : m ≤ lenN x.six) (hn : ¬ (m < lenN x.six ∧ 2 ^ (m + 1) ∣ keyA x ∧ keyA x + 2 ^ (m + 1) ≤ e)) : growM (keyA x) e (128 - m) m = m := by
  have h2 := lenN_128 x.six
  rcases Nat.lt_or_ge m 128 with h | h
  · obtain ⟨k, hk⟩ : ∃ k, 128 - m = k + 1 := ⟨127 - m, by omega⟩
    rw [hk, growM, if_neg]
    rintro ⟨h3, h4⟩
    have h5 : ¬ m < lenN x.six := fun h6 => hn ⟨h6, h3, h4⟩
    have h6 : m = lenN x.six := by omega
    have h7 := key_fam x
    have h8 := Nat.two_pow_pos m
    rw [← h6] at h7
    rw [Nat.pow_succ] at h4
    omega
  · rw [show 128 - m = 0 by omega]; rfl
theorem grow_go {at_ e m L : Nat} (hL : L ≤ 128) (hn : m < L ∧ 2 ^ (m + 1) ∣ at_ ∧ at_ + 2 ^ (m + 1) ≤ e) : growM at_ e (128 - m) m = growM at_ e (128 - (m + 1)) (m + 1) := by
  obtain ⟨k, hk⟩ : ∃ k, 128 - m = k + 1 := ⟨127 - m, by omega⟩
  rw [hk, growM, if_pos hn.2, show 128 - (m + 1) = k by omega]
/-- The blocks that are to come at a place of a range; none behind its end. -/
def restP (left : Bool) (x : Ad) (e : Nat) : List Bk := if left then preG (keyA x) e else []
theorem bk_new {x : Ad} {m : Nat} : bkP ⟨x.six, x.hi, x.lo, lenA x.six - m⟩ = (keyA x, m) := by
  unfold bkP adP
  rw [show (lenA x.six - (lenA x.six - (m : Int))).toNat = m by omega]
theorem preS_append (S T : List Sn) : preS (S ++ T) = preS S ++ preS T := by unfold preS; rw [List.flatMap_append]
theorem preS_one (x : Sn) : preS [x] = preG x.1 x.2 := by unfold preS; simp
end Go.Proofs.YtajifionclpphaaGreatDoor
