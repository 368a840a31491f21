/- The plain law of tables: prefixes as ranges of numbers, the entry with the most bits, Squeeze, the edges of tables. -/
import Derived.Lib.IndexMore
open Go
namespace Go.Hw
/-! The plain law of tables: prefixes as ranges of numbers. -/
/-- A prefix: its family, its first number, how many bits are left open. -/
structure Px where
  six : Bool
  f : Nat
  m : Nat
def Px.has (p : Px) (s : Bool) (n : Nat) : Prop := p.six = s ∧ p.f ≤ n ∧ n < p.f + 2 ^ p.m
def Px.al (p : Px) : Prop := 2 ^ p.m ∣ p.f
theorem Px.first {p : Px} (ha : p.al) {s : Bool} {n : Nat} : p.has s n ↔ p.six = s ∧ n / 2 ^ p.m * 2 ^ p.m = p.f := by
  obtain ⟨k, hk⟩ := ha
  have hp := Nat.two_pow_pos p.m
  unfold Px.has
  constructor
  · rintro ⟨h1, h2, h3⟩
    refine ⟨h1, ?_⟩
    rw [hk] at h2 h3 ⊢
    have : n / 2 ^ p.m = k := by
      apply Nat.div_eq_of_lt_le
      · rw [Nat.mul_comm]; exact h2
      · rw [Nat.succ_mul, Nat.mul_comm]; exact h3
    rw [this, Nat.mul_comm]
  · rintro ⟨h1, h2⟩
    have h3 := Nat.div_add_mod n (2 ^ p.m)
    have h4 := Nat.mod_lt n hp
    rw [Nat.mul_comm] at h3
    refine ⟨h1, ?_, ?_⟩ <;> omega
theorem Px.self {p : Px} : p.has p.six p.f := ⟨rfl, Nat.le_refl _, by have := Nat.two_pow_pos p.m; omega⟩
/-- Of two prefixes that have a number in common the one with fewer bits left open lies in the other one. -/
theorem Px.nest {p q : Px} (hp : p.al) (hq : q.al) {s : Bool} {n : Nat} (h1 : p.has s n) (h2 : q.has s n) (hm : p.m ≤ q.m) : q.has p.six p.f ∧ ∀ t k, p.has t k → q.has t k := by
  have e1 := (Px.first hp).1 h1
  have e2 := (Px.first hq).1 h2
  obtain ⟨d, hd⟩ := Nat.exists_eq_add_of_le hm
  have key : ∀ k, p.has p.six k → q.has p.six k := fun k hk => by
    have e3 := (Px.first hp).1 hk
    refine (Px.first hq).2 ⟨e2.1.trans e1.1.symm, ?_⟩
    have hdd : ∀ x : Nat, x / 2 ^ q.m = x / 2 ^ p.m / 2 ^ d := fun x => by rw [hd, Nat.pow_add, Nat.div_div_eq_div_mul]
    have e4 : k / 2 ^ p.m = n / 2 ^ p.m := by
      have := e3.2.trans e1.2.symm
      exact Nat.eq_of_mul_eq_mul_right (Nat.two_pow_pos p.m) this
    rw [hdd, e4, ← hdd]
    exact e2.2
  exact ⟨key _ Px.self, fun t k hk => by rw [← hk.1]; exact key k (hk.1 ▸ hk)⟩
theorem Px.same {p q : Px} (hp : p.al) (hq : q.al) {s : Bool} {n : Nat} (h1 : p.has s n) (h2 : q.has s n) (hm : p.m = q.m) : p = q := by
  have e1 := (Px.first hp).1 h1
  have e2 := (Px.first hq).1 h2
  cases p; cases q
  simp only at *
  subst hm
  simp [e1.1, e2.1, ← e1.2, ← e2.2]

/-! ### the entry with the most bits among those that are asked for -/
variable {α : Type}
def mostF (bits : α → Int) : Option α → Int
  | some y => bits y
  | none => -1
def bestF (bits : α → Int) (P : α → Bool) (acc : Option α) : List α → Option α
  | [] => acc
  | x :: l => bestF bits P (if P x && decide (mostF bits acc < bits x) then some x else acc) l
structure Best (bits : α → Int) (P : α → Bool) (t : List α) (r : Option α) : Prop where
  none_ : r = none → ∀ x ∈ t, P x = false
  some_ : ∀ e, r = some e → e ∈ t ∧ P e = true ∧ ∀ y ∈ t, P y = true → bits y ≤ bits e
theorem bestF_go (bits : α → Int) (P : α → Bool) (hb : ∀ x, 0 ≤ bits x) : ∀ (l t : List α) (acc : Option α), Best bits P t acc → Best bits P (t ++ l) (bestF bits P acc l)
  | [], t, acc, h => by simpa [bestF] using h
  | x :: l, t, acc, h => by
    have hs : Best bits P (t ++ [x]) (if P x && decide (mostF bits acc < bits x) then some x else acc) := by
      by_cases hP : P x = true
      · cases acc with
        | none =>
          have hx := hb x
          have e : (P x && decide (mostF bits none < bits x)) = true := by rw [hP, Bool.true_and, decide_eq_true_iff]; show (-1 : Int) < bits x; omega
          rw [if_pos e]
          refine ⟨fun h => (by cases h), fun e' he => ?_⟩
          injection he with he
          subst he
          refine ⟨by simp, hP, fun y hy hPy => ?_⟩
          rcases List.mem_append.1 hy with hy | hy
          · rw [h.none_ rfl y hy] at hPy; cases hPy
          · simp at hy; subst hy; exact Int.le_refl _
        | some z =>
          obtain ⟨h1, h2, h3⟩ := h.some_ z rfl
          by_cases hlt : bits z < bits x
          · rw [if_pos (show (P x && decide (mostF bits (some z) < bits x)) = true by simp [hP, mostF, hlt])]
            refine ⟨fun h => (by cases h), fun e' he => ?_⟩
            injection he with he
            subst he
            refine ⟨by simp, hP, fun y hy hPy => ?_⟩
            rcases List.mem_append.1 hy with hy | hy
            · have := h3 y hy hPy; omega
            · simp at hy; subst hy; exact Int.le_refl _
          · rw [if_neg (show ¬ (P x && decide (mostF bits (some z) < bits x)) = true by simp [hP, mostF, hlt])]
            refine ⟨fun h => (by cases h), fun e' he => ?_⟩
            injection he with he
            subst he
            refine ⟨by simp [h1], h2, fun y hy hPy => ?_⟩
            rcases List.mem_append.1 hy with hy | hy
            · exact h3 y hy hPy
            · simp at hy; subst hy; omega
      · have hP' : P x = false := by simpa using hP
        rw [if_neg (by simp [hP'])]
        refine ⟨fun h0 y hy => ?_, fun e' he => ?_⟩
        · rcases List.mem_append.1 hy with hy | hy
          · exact h.none_ h0 y hy
          · simp at hy; subst hy; exact hP'
        · obtain ⟨h1, h2, h3⟩ := h.some_ e' he
          refine ⟨by simp [h1], h2, fun y hy hPy => ?_⟩
          rcases List.mem_append.1 hy with hy | hy
          · exact h3 y hy hPy
          · simp at hy; subst hy; rw [hP'] at hPy; cases hPy
    have := bestF_go bits P hb l (t ++ [x]) _ hs
    rw [List.append_assoc] at this
    exact this
theorem bestF_best (bits : α → Int) (P : α → Bool) (hb : ∀ x, 0 ≤ bits x) (t : List α) : Best bits P t (bestF bits P none t) := by
  have := bestF_go bits P hb t [] none ⟨fun _ x hx => (by simp at hx), fun e he => by cases he⟩
  simpa using this
theorem bestF_eq {bits : α → Int} {P : α → Bool} (hb : ∀ x, 0 ≤ bits x) {t : List α} {e : α} (he : e ∈ t) (hP : P e = true) (hm : ∀ y ∈ t, P y = true → bits y ≤ bits e) (hu : ∀ x ∈ t, ∀ y ∈ t, P x = true → P y = true → bits x = bits y → x = y) : bestF bits P none t = some e := by
  have h := bestF_best bits P hb t
  cases hr : bestF bits P none t with
  | none => have := h.none_ hr e he; rw [hP] at this; cases this
  | some z =>
    obtain ⟨h1, h2, h3⟩ := h.some_ z hr
    rw [hu z h1 e he h2 hP (Int.le_antisymm (hm z h1 h2) (h3 e he hP))]
theorem bestF_none {bits : α → Int} {P : α → Bool} (hb : ∀ x, 0 ≤ bits x) {t : List α} (h : ∀ x ∈ t, P x = false) : bestF bits P none t = none := by
  have hB := bestF_best bits P hb t
  cases hr : bestF bits P none t with
  | none => rfl
  | some z => have := hB.some_ z hr; rw [h z this.1] at this; cases this.2.1
theorem bestF_congr {bits : α → Int} {P Q : α → Bool} {t : List α} (h : ∀ x ∈ t, P x = Q x) : ∀ acc, bestF bits P acc t = bestF bits Q acc t := by
  induction t with
  | nil => intro acc; rfl
  | cons x l ih =>
    intro acc
    unfold bestF
    rw [h x (by simp)]
    exact ih (fun y hy => h y (List.mem_cons_of_mem _ hy)) _

/-! ### tables -/
/-- An entry of a table. -/
structure Te where
  p : Px
  bits : Nat
  to : List UInt8
/-- What a right table is like: entries are right, their targets are there, no prefix is there twice. -/
structure TbOk (t : List Te) : Prop where
  al : ∀ x ∈ t, x.p.al
  bits : ∀ x ∈ t, ∀ y ∈ t, x.p.six = y.p.six → (x.bits ≤ y.bits ↔ y.p.m ≤ x.p.m)
  to : ∀ x ∈ t, x.to ≠ []
  one : ∀ x ∈ t, ∀ y ∈ t, x.p = y.p → x = y
theorem TbOk.sub {t u : List Te} (h : TbOk t) (hs : ∀ x ∈ u, x ∈ t) : TbOk u :=
  ⟨fun x hx => h.al x (hs x hx), fun x hx y hy => h.bits x (hs x hx) y (hs y hy), fun x hx => h.to x (hs x hx), fun x hx y hy => h.one x (hs x hx) y (hs y hy)⟩
def Te.b (x : Te) : Int := x.bits
theorem Te.b0 (x : Te) : 0 ≤ x.b := Int.natCast_nonneg _
def Te.hasB (s : Bool) (n : Nat) (x : Te) : Bool := x.p.six == s && (decide (x.p.f ≤ n) && decide (n < x.p.f + 2 ^ x.p.m))
theorem Te.hasB_iff {s : Bool} {n : Nat} {x : Te} : x.hasB s n = true ↔ x.p.has s n := by
  unfold Te.hasB Px.has
  simp
def toF : Option Te → List UInt8
  | some e => e.to
  | none => []
/-- Where a number goes. -/
def lookF (t : List Te) (s : Bool) (n : Nat) : List UInt8 := toF (bestF Te.b (Te.hasB s n) none t)
/-- The entry just above another one. -/
def overF (t : List Te) (x : Te) : Option Te := bestF Te.b (fun y => decide (y.bits < x.bits) && y.hasB x.p.six x.p.f) none t
def keptB (t : List Te) (x : Te) : Bool := !(toF (overF t x) == x.to)
def squF (t : List Te) : List Te := t.filter (keptB t)
theorem squ_sub {t : List Te} : ∀ x ∈ squF t, x ∈ t := fun _ hx => (List.mem_filter.1 hx).1
theorem te_same {t : List Te} (h : TbOk t) {s : Bool} {n : Nat} {x y : Te} (hx : x ∈ t) (hy : y ∈ t) (h1 : x.p.has s n) (h2 : y.p.has s n) (hb : x.bits = y.bits) : x = y := by
  have hs : x.p.six = y.p.six := h1.1.trans h2.1.symm
  have e1 := (h.bits x hx y hy hs).1 (by omega)
  have e2 := (h.bits y hy x hx hs.symm).1 (by omega)
  exact h.one x hx y hy (Px.same (h.al x hx) (h.al y hy) h1 h2 (by omega))
/-- What has a number in common with an entry, and fewer bits, has all of it. -/
theorem te_over {t : List Te} (h : TbOk t) {s : Bool} {n : Nat} {x y : Te} (hx : x ∈ t) (hy : y ∈ t) (h1 : x.p.has s n) (h2 : y.p.has s n) (hb : y.bits ≤ x.bits) : y.p.has x.p.six x.p.f ∧ ∀ s k, x.p.has s k → y.p.has s k :=
  Px.nest (h.al x hx) (h.al y hy) h1 h2 ((h.bits y hy x hx (h2.1.trans h1.1.symm)).1 hb)
def upB (s : Bool) (n m : Nat) (y : Te) : Bool := y.hasB s n && decide (y.bits ≤ m)
theorem chain {t : List Te} (h : TbOk t) (s : Bool) (n : Nat) : ∀ (m : Nat) (e : Te), e.bits = m → e ∈ t → e.p.has s n → ∃ r, bestF Te.b (upB s n e.bits) none (squF t) = some r ∧ r.to = e.to := by
  intro m
  induction m using Nat.strongRecOn with
  | _ m ih =>
    intro e hm he hs
    by_cases hk : keptB t e = true
    · refine ⟨e, bestF_eq Te.b0 (List.mem_filter.2 ⟨he, hk⟩) ?_ (fun y hy hP => ?_) (fun x hx y hy hPx hPy hb => ?_), rfl⟩
      · unfold upB; rw [Te.hasB_iff.2 hs]; simp
      · unfold upB at hP
        simp only [Bool.and_eq_true, decide_eq_true_eq] at hP
        show (y.bits : Int) ≤ e.bits
        omega
      · unfold upB at hPx hPy
        simp only [Bool.and_eq_true, decide_eq_true_eq] at hPx hPy
        exact te_same h (squ_sub x hx) (squ_sub y hy) (Te.hasB_iff.1 hPx.1) (Te.hasB_iff.1 hPy.1) (Int.ofNat.inj hb)
    · have hto : toF (overF t e) = e.to := by
        unfold keptB at hk
        simpa using hk
      have hB := bestF_best Te.b (fun y => decide (y.bits < e.bits) && y.hasB e.p.six e.p.f) Te.b0 t
      cases ho : overF t e with
      | none => rw [ho] at hto; exact absurd hto.symm (h.to e he)
      | some y =>
        rw [ho] at hto
        obtain ⟨h1, h2, h3⟩ := hB.some_ y ho
        simp only [Bool.and_eq_true, decide_eq_true_eq] at h2
        have hys : y.p.has s n := (te_over h he h1 Px.self (Te.hasB_iff.1 h2.2) (by omega)).2 s n hs
        obtain ⟨r, hr, hrt⟩ := ih y.bits (by omega) y rfl h1 hys
        refine ⟨r, ?_, hrt.trans hto⟩
        rw [← hr]
        refine bestF_congr (fun z hz => ?_) none
        unfold upB
        rw [Bool.eq_iff_iff]
        simp only [Bool.and_eq_true, decide_eq_true_eq]
        constructor
        · rintro ⟨z1, z2⟩
          refine ⟨z1, ?_⟩
          have hzs := Te.hasB_iff.1 z1
          have hzt := squ_sub z hz
          by_cases hzb : z.bits = e.bits
          · have := te_same h hzt he hzs hs hzb
            subst this
            exact absurd (List.mem_filter.1 hz).2 hk
          · have hzo := (te_over h he hzt hs hzs z2).1
            have := h3 z hzt (by simp only [Bool.and_eq_true, decide_eq_true_eq]; exact ⟨by omega, Te.hasB_iff.2 hzo⟩)
            exact Int.ofNat_le.1 this
        · rintro ⟨z1, z2⟩
          exact ⟨z1, by omega⟩
/-- A table that is squeezed says the same. -/
theorem look_squ {t : List Te} (h : TbOk t) (s : Bool) (n : Nat) : lookF (squF t) s n = lookF t s n := by
  have hB := bestF_best Te.b (Te.hasB s n) Te.b0 t
  unfold lookF
  cases hr : bestF Te.b (Te.hasB s n) none t with
  | none =>
    rw [bestF_none Te.b0 (fun x hx => hB.none_ hr x (squ_sub x hx))]
  | some e =>
    obtain ⟨h1, h2, h3⟩ := hB.some_ e hr
    obtain ⟨r, hr2, hrt⟩ := chain h s n e.bits e rfl h1 (Te.hasB_iff.1 h2)
    have : bestF Te.b (Te.hasB s n) none (squF t) = bestF Te.b (upB s n e.bits) none (squF t) := bestF_congr (fun z hz => by
      unfold upB
      cases hz1 : z.hasB s n
      · rfl
      · have := Int.ofNat_le.1 (h3 z (squ_sub z hz) hz1)
        simp [this]) none
    rw [this, hr2]
    exact hrt
/-- What is squeezed is its own Squeeze. -/
theorem squ_again {t : List Te} (h : TbOk t) : squF (squF t) = squF t := by
  refine List.filter_eq_self.2 (fun x hx => ?_)
  have hxt := squ_sub x hx
  have hk := (List.mem_filter.1 hx).2
  have hB := bestF_best Te.b (fun y => decide (y.bits < x.bits) && y.hasB x.p.six x.p.f) Te.b0 t
  unfold keptB at hk ⊢
  cases ho : overF t x with
  | none =>
    have hn : overF (squF t) x = none := bestF_none Te.b0 (fun z hz => hB.none_ ho z (squ_sub z hz))
    rw [hn]
    have hto := h.to x hxt
    cases hx0 : x.to with
    | nil => exact absurd hx0 hto
    | cons a r => rfl
  | some y =>
    rw [ho] at hk
    obtain ⟨h1, h2, h3⟩ := hB.some_ y ho
    simp only [Bool.and_eq_true, decide_eq_true_eq] at h2
    obtain ⟨r, hr, hrt⟩ := chain h x.p.six x.p.f y.bits y rfl h1 (Te.hasB_iff.1 h2.2)
    have : overF (squF t) x = some r := by
      rw [← hr]
      refine bestF_congr (fun z hz => ?_) none
      unfold upB
      rw [Bool.eq_iff_iff]
      simp only [Bool.and_eq_true, decide_eq_true_eq]
      constructor
      · rintro ⟨z1, z2⟩
        exact ⟨z2, Int.ofNat_le.1 (h3 z (squ_sub z hz) (by simp only [Bool.and_eq_true, decide_eq_true_eq]; exact ⟨z1, z2⟩))⟩
      · rintro ⟨z1, z2⟩
        exact ⟨by omega, z1⟩
    rw [this]
    simp only [toF] at hk ⊢
    rw [hrt]
    exact hk
def lenN (s : Bool) : Nat := if s then 128 else 32
/-- The numbers at which a table can begin to say something else. -/
def edgF (t : List Te) : List (Bool × Nat) := (false, 0) :: (true, 0) :: t.flatMap (fun x => (x.p.six, x.p.f) :: if x.p.f + 2 ^ x.p.m < 2 ^ lenN x.p.six then [(x.p.six, x.p.f + 2 ^ x.p.m)] else [])
theorem max_of : ∀ (l : List (Bool × Nat)), l ≠ [] → ∃ e ∈ l, ∀ x ∈ l, x.2 ≤ e.2
  | [x], _ => ⟨x, by simp, fun y hy => by simp at hy; subst hy; exact Nat.le_refl _⟩
  | x :: y :: l, _ => by
    obtain ⟨e, he, hm⟩ := max_of (y :: l) (by simp)
    by_cases hx : x.2 ≤ e.2
    · exact ⟨e, List.mem_cons_of_mem _ he, fun z hz => by
        rcases List.mem_cons.1 hz with rfl | hz
        · exact hx
        · exact hm z hz⟩
    · exact ⟨x, by simp, fun z hz => by
        rcases List.mem_cons.1 hz with rfl | hz
        · exact Nat.le_refl _
        · have := hm z hz; omega⟩
/-- Tables that say the same at all edges of both say the same. -/
theorem look_edges {t u : List Te} (h : ∀ e, e ∈ edgF t ∨ e ∈ edgF u → lookF t e.1 e.2 = lookF u e.1 e.2) (s : Bool) (n : Nat) (hn : n < 2 ^ lenN s) : lookF t s n = lookF u s n := by
  obtain ⟨e, he, hmax⟩ := max_of ((edgF t ++ edgF u).filter (fun e => e.1 == s && decide (e.2 ≤ n))) (by
    have : (s, 0) ∈ (edgF t ++ edgF u).filter (fun e => e.1 == s && decide (e.2 ≤ n)) := List.mem_filter.2 ⟨by cases s <;> simp [edgF], by simp⟩
    exact List.ne_nil_of_mem this)
  obtain ⟨he1, he2⟩ := List.mem_filter.1 he
  simp only [Bool.and_eq_true, beq_iff_eq, decide_eq_true_eq] at he2
  have hsame : ∀ v, (v = t ∨ v = u) → lookF v s n = lookF v e.1 e.2 := fun v hv => by
    unfold lookF
    congr 1
    refine bestF_congr (fun x hx => ?_) none
    have hin : ∀ z, z ∈ edgF v → z.1 = s → z.2 ≤ n → z.2 ≤ e.2 := fun z hz h1 h2 => hmax z (List.mem_filter.2 ⟨List.mem_append.2 (by rcases hv with rfl | rfl; exact .inl hz; exact .inr hz), by simp [h1, h2]⟩)
    have hf : (x.p.six, x.p.f) ∈ edgF v := by
      unfold edgF
      refine List.mem_cons_of_mem _ (List.mem_cons_of_mem _ (List.mem_flatMap.2 ⟨x, hx, by simp⟩))
    have hl : x.p.f + 2 ^ x.p.m < 2 ^ lenN x.p.six → (x.p.six, x.p.f + 2 ^ x.p.m) ∈ edgF v := fun hlt => by
      unfold edgF
      refine List.mem_cons_of_mem _ (List.mem_cons_of_mem _ (List.mem_flatMap.2 ⟨x, hx, by simp [hlt]⟩))
    rw [Bool.eq_iff_iff, Te.hasB_iff, Te.hasB_iff]
    unfold Px.has
    constructor
    · rintro ⟨h1, h2, h3⟩
      have := hin _ hf h1 h2
      exact ⟨h1.trans he2.1.symm, this, by omega⟩
    · rintro ⟨h1, h2, h3⟩
      have h1' := h1.trans he2.1
      refine ⟨h1', by omega, ?_⟩
      rcases Nat.lt_or_ge n (x.p.f + 2 ^ x.p.m) with h4 | h4
      · exact h4
      · have := hin _ (hl (by rw [h1']; omega)) h1' h4
        simp only at this
        omega
  rw [hsame t (.inl rfl), hsame u (.inr rfl)]
  exact h e (List.mem_append.1 he1)
end Go.Hw
