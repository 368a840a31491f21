/- The plain law of tables: prefixes as ranges of numbers, the entry with the most bits, Squeeze, the edges of tables. -/
import Derived.Lib.IndexMore
open Go
namespace Go.Hw
/-! The plain law of tables: prefixes as ranges of numbers. -/
/-- A prefix: its family, its first number, how many bits are left open. -/
structure Px where
  six : Bool
  f : Nat
  m : Nat
def Px.has (p : Px) (s : Bool) (n : Nat) : Prop := p.six = s ∧ p.f ≤ n ∧ n < p.f + 2 ^ p.m
def Px.al (p : Px) : Prop := 2 ^ p.m ∣ p.f
theorem Px.first {p : Px} (ha : p.al) {s : Bool} {n : Nat} : p.has s n ↔ p.six = s ∧ n / 2 ^ p.m * 2 ^ p.m = p.f := by
  obtain ⟨k, hk⟩ := ha
  have hp := Nat.two_pow_pos p.m
  unfold Px.has
  constructor
  · rintro ⟨h1, h2, h3⟩
    refine ⟨h1, ?_⟩
    rw [hk] at h2 h3 ⊢
    have : n / 2 ^ p.m = k := by
      apply Nat.div_eq_of_lt_le
      · rw [Nat.mul_comm]; exact h2
      · rw [Nat.succ_mul, Nat.mul_comm]; exact h3
    rw [this, Nat.mul_comm]
  · rintro ⟨h1, h2⟩
    have h3 := Nat.div_add_mod n (2 ^ p.m)
    have h4 := Nat.mod_lt n hp
    rw [Nat.mul_comm] at h3
    refine ⟨h1, ?_, ?_⟩ <;> omega
theorem Px.self {p : Px} : p.has p.six p.f := ⟨rfl, Nat.le_refl _, by have := Nat.two_pow_pos p.m; omega⟩
/-- Of two prefixes that have a number in common the one with fewer bits left open lies in the other one. -/
theorem Px.nest {p q : Px} (hp : p.al) (hq : q.al) {s : Bool} {n : Nat} (h1 : p.has s n) (h2 : q.has s n) (hm : p.m ≤ q.m) : q.has p.six p.f ∧ ∀ t k, p.has t k → q.has t k := by
  have e1 := (Px.first hp).1 h1
  have e2 := (Px.first hq).1 h2
  obtain ⟨d, hd⟩ := Nat.exists_eq_add_of_le hm
  have key : ∀ k, p.has p.six k → q.has p.six k := fun k hk => by
    have e3 := (Px.first hp).1 hk
    refine (Px.first hq).2 ⟨e2.1.trans e1.1.symm, ?_⟩
    have hdd : ∀ x : Nat, x / 2 ^ q.m = x / 2 ^ p.m / 2 ^ d := fun x => by rw [hd, Nat.pow_add, Nat.div_div_eq_div_mul]
    have e4 : k / 2 ^ p.m = n / 2 ^ p.m := by
      have := e3.2.trans e1.2.symm
      exact Nat.eq_of_mul_eq_mul_right (Nat.two_pow_pos p.m) this
    rw [hdd, e4, ← hdd]
    exact e2.2
  exact ⟨key _ Px.self, fun t k hk => by rw [← hk.1]; exact key k (hk.1 ▸ hk)⟩
theorem Px.same {p q : Px} (hp : p.al) (hq : q.al) {s : Bool} {n : Nat} (h1 : p.has s n) (h2 : q.has s n) (hm : p.m = q.m) : p = q := by
  have e1 := (Px.first hp).1 h1
  have e2 := (Px.first hq).1 h2
  cases p; cases q
  simp only at *
  subst hm
  simp [e1.1, e2.1, ← e1.2, ← e2.2]

/-! ### the entry with the most bits among those that are asked for -/
variable {α : Type}
structure Best (bits : α → Int) (P : α → Bool) (t : List α) (r : Option α) : Prop where
  none_ : r = none → ∀ x ∈ t, P x = false
  some_ : ∀ e, r = some e → e ∈ t ∧ P e = true ∧ ∀ y ∈ t, P y = true → bits y ≤ bits e
/-! ### tables -/
/-- An entry of a table. -/
structure Te where
  p : Px
  bits : Nat
  to : List UInt8
/-- What a right table is like: entries are right, their targets are there, no prefix is there twice. -/
structure TbOk (t : List Te) : Prop where
  al : ∀ x ∈ t, x.p.al
  bits : ∀ x ∈ t, ∀ y ∈ t, x.p.six = y.p.six → (x.bits ≤ y.bits ↔ y.p.m ≤ x.p.m)
  to : ∀ x ∈ t, x.to ≠ []
  one : ∀ x ∈ t, ∀ y ∈ t, x.p = y.p → x = y
theorem TbOk.sub {t u : List Te} (h : TbOk t) (hs : ∀ x ∈ u, x ∈ t) : TbOk u :=
  ⟨fun x hx => h.al x (hs x hx), fun x hx y hy => h.bits x (hs x hx) y (hs y hy), fun x hx => h.to x (hs x hx), fun x hx y hy => h.one x (hs x hx) y (hs y hy)⟩
def Te.b (x : Te) : Int := x.bits
theorem Te.b0 (x : Te) : 0 ≤ x.b := Int.natCast_nonneg _
def lenN (s : Bool) : Nat := if s then 128 else 32
end Go.Hw
