/- The plain law of packing: blocks that fit in some way are laid one by one, the greatest first, each wherever there is room: there always is. No program is in it. The plain law of pools: what is free, what is chosen, what a pool is with another lease. No program is in it. -/
import Derived.Test.YtajifionclpphaaGreatDoorStR
import Derived.Test.YtajifionclpphaaGreatDoorStU
namespace Go.Proofs.YtajifionclpphaaGreatDoor
open Classical in
/-- How many numbers below a bound have a property. -/
noncomputable def cntP (p : Nat → Prop) : Nat → Nat
  | 0 => 0
  | k + 1 => cntP p k + if p k then 1 else 0
theorem cntP_add {p q r : Nat → Prop} (h : ∀ n, p n ↔ q n ∨ r n) (hd : ∀ n, q n → ¬ r n) : ∀ K, cntP p K = cntP q K + cntP r K
  | 0 => rfl
  | K + 1 => by
    rw [cntP, cntP, cntP, cntP_add h hd K]
    by_cases hq : q K
    · have hp : p K := (h K).2 (.inl hq)
      rw [if_pos hp, if_pos hq, if_neg (hd K hq)]; omega
    · by_cases hr : r K
      · rw [if_pos ((h K).2 (.inr hr)), if_neg hq, if_pos hr]; omega
      · rw [if_neg (fun hp => ((h K).1 hp).elim hq hr), if_neg hq, if_neg hr]; omega
theorem cntP_pos {p : Nat → Prop} : ∀ {K}, 0 < cntP p K → ∃ n, p n
  | 0, h => by simp [cntP] at h
  | K + 1, h => by
    by_cases hp : p K
    · exact ⟨K, hp⟩
    · rw [cntP, if_neg hp] at h
      exact cntP_pos (K := K) (by omega)
theorem cntP_from (a e : Nat) : ∀ K, cntP (fun n => a ≤ n ∧ n < e) K = min K e - min K a
  | 0 => by simp [cntP]
  | K + 1 => by
    rw [cntP, cntP_from a e K]
    split <;> omega
/-- A number lies in a block. -/
def inK (b : Bk) (n : Nat) : Prop := b.1 ≤ n ∧ n < b.1 + 2 ^ b.2
theorem cntP_bk {b : Bk} {K : Nat} (h : b.1 + 2 ^ b.2 ≤ K) : cntP (inK b) K = 2 ^ b.2 := by
  have := cntP_from b.1 (b.1 + 2 ^ b.2) K
  have hp := Nat.two_pow_pos b.2
  show cntP (fun n => b.1 ≤ n ∧ n < b.1 + 2 ^ b.2) K = _
  rw [this, Nat.min_eq_right h, Nat.min_eq_right (by omega)]
  omega
/-- The whole block of 2 ^ k numbers in which a number lies is free. -/
def fitsK (k : Nat) (F : Nat → Prop) (n : Nat) : Prop := ∀ m, m / 2 ^ k = n / 2 ^ k → F m
/-- A block that lies at a multiple of its size holds whole smaller blocks. -/
theorem al_same {b : Bk} (hb : alB b) {k : Nat} (hk : k ≤ b.2) {n m : Nat} (hn : inK b n) (e : m / 2 ^ k = n / 2 ^ k) : inK b m := by
  have hp := Nat.two_pow_pos k
  have h1 := nest (b := (n / 2 ^ k * 2 ^ k, k)) (c := b) ⟨n / 2 ^ k, by rw [Nat.mul_comm]⟩ hb hk (n := n) ⟨Nat.div_mul_le_self n _, by
    have := Nat.lt_div_mul_add (a := n) hp
    exact this⟩ hn
  dsimp only at h1
  have h2 : n / 2 ^ k * 2 ^ k ≤ m := by rw [← e]; exact Nat.div_mul_le_self m _
  have h3 : m < n / 2 ^ k * 2 ^ k + 2 ^ k := by rw [← e]; exact Nat.lt_div_mul_add hp
  exact ⟨by omega, by omega⟩
/-- What is free when a block is taken away. -/
theorem fits_take {F F' : Nat → Prop} {b : Bk} (hb : alB b) {k : Nat} (hk : k ≤ b.2) (hin : ∀ n, inK b n → F n) (hF : ∀ n, F' n ↔ F n ∧ ¬ inK b n) {K : Nat} (hK : b.1 + 2 ^ b.2 ≤ K) :
    cntP (fitsK k F) K = cntP (fitsK k F') K + 2 ^ b.2 := by
  rw [cntP_add (q := fitsK k F') (r := inK b) (fun n => ?_) (fun n h hn => ((hF n).1 (h n rfl)).2 hn) K, cntP_bk hK]
  constructor
  · intro h
    by_cases hn : inK b n
    · exact .inr hn
    · exact .inl fun m hm => (hF m).2 ⟨h m hm, fun hm2 => hn (al_same hb hk hm2 hm.symm)⟩
  · rintro (h | h)
    · exact fun m hm => ((hF m).1 (h m hm)).1
    · exact fun m hm => hin m (al_same hb hk h hm)
/-- Blocks that lie apart in what is free, each at least so great, have as much room as they want. -/
theorem fits_room (k K : Nat) : ∀ (Bs : List Bk) (F : Nat → Prop), (∀ b ∈ Bs, alB b ∧ b.1 + 2 ^ b.2 ≤ K ∧ ∀ n, inK b n → F n) → Bs.Pairwise (fun b c => ∀ n, inK b n → ¬ inK c n) →
    ((Bs.filter (fun b => decide (k ≤ b.2))).map (fun b => 2 ^ b.2)).sum ≤ cntP (fitsK k F) K
  | [], _, _, _ => Nat.zero_le _
  | b :: Bs, F, h, hp => by
    obtain ⟨h1, h2, h3⟩ := h b (by simp)
    obtain ⟨hp1, hp2⟩ := List.pairwise_cons.1 hp
    rw [List.filter_cons]
    split
    · rename_i hk
      have hk' : k ≤ b.2 := of_decide_eq_true hk
      rw [fits_take (F' := fun n => F n ∧ ¬ inK b n) h1 hk' h3 (fun _ => Iff.rfl) h2, List.map_cons, List.sum_cons]
      have := fits_room k K Bs (fun n => F n ∧ ¬ inK b n) (fun c hc => ⟨(h c (by simp [hc])).1, (h c (by simp [hc])).2.1, fun n hn => ⟨(h c (by simp [hc])).2.2 n hn, fun hb => hp1 c hc n hb hn⟩⟩) hp2
      omega
    · exact fits_room k K Bs F (fun c hc => h c (by simp [hc])) hp2
/-- What is laid so far: each block takes just its own room, as long as the later ones are no greater. -/
def PackI (F0 : Nat → Prop) (K : Nat) (done : List Nat) (F : Nat → Prop) : Prop := ∀ k, (∀ m ∈ done, k ≤ m) → cntP (fitsK k F) K + (done.map (fun m => 2 ^ m)).sum = cntP (fitsK k F0) K
theorem PackI.start (F0 : Nat → Prop) (K : Nat) : PackI F0 K [] F0 := fun k _ => by simp
theorem PackI.step {F0 F F' : Nat → Prop} {K : Nat} {done : List Nat} {b : Bk} (h : PackI F0 K done F) (hb : alB b) (hK : b.1 + 2 ^ b.2 ≤ K) (hin : ∀ n, inK b n → F n) (hF : ∀ n, F' n ↔ F n ∧ ¬ inK b n) : PackI F0 K (done ++ [b.2]) F' := fun k hk => by
  have h1 := h k (fun m hm => hk m (by simp [hm]))
  have h2 := fits_take (k := k) hb (hk b.2 (by simp)) hin hF hK
  rw [List.map_append, List.sum_append, List.map_singleton, List.sum_singleton]
  omega
/-- There is room for the next one. -/
theorem PackI.room {F0 F : Nat → Prop} {K m : Nat} {done rest : List Nat} {Bs : List Bk} (h : PackI F0 K done F) (hB : ∀ b ∈ Bs, alB b ∧ b.1 + 2 ^ b.2 ≤ K ∧ ∀ n, inK b n → F0 n) (hp : Bs.Pairwise (fun b c => ∀ n, inK b n → ¬ inK c n))
    (hs : (done ++ m :: rest).Perm (Bs.map (fun b => b.2))) (hm : ∀ x ∈ done, m ≤ x) : ∃ n, fitsK m F n := by
  have h1 := fits_room m K Bs F0 hB hp
  have h2 := h m hm
  have h3 : ((Bs.filter (fun b => decide (m ≤ b.2))).map (fun b => 2 ^ b.2)).sum = (((done ++ m :: rest).filter (fun x => decide (m ≤ x))).map (fun x => 2 ^ x)).sum := by
    have e1 : (Bs.filter (fun b => decide (m ≤ b.2))).map (fun b => 2 ^ b.2) = ((Bs.map (fun b => b.2)).filter (fun x => decide (m ≤ x))).map (fun x => 2 ^ x) := by
      rw [List.filter_map, List.map_map]
      rfl
    rw [e1]
    exact (((hs.filter _).map _).sum_nat).symm
  have h4 : (done.filter (fun x => decide (m ≤ x))) = done := List.filter_eq_self.2 fun x hx => decide_eq_true (hm x hx)
  rw [h3, List.filter_append, h4, List.filter_cons, if_pos (by simp), List.map_append, List.sum_append, List.map_cons, List.sum_cons] at h1
  have hp := Nat.two_pow_pos m
  exact cntP_pos (K := K) (by omega)
/-- Where a whole block is free, one of the set's own blocks is as great. -/
theorem fits_pre {S : List Sn} (hS : NormS S) (hb : ∀ x ∈ S, x.2 ≤ x.1 + 2 ^ 128) {m n : Nat} (h : fitsK m (hasS S) n) : ∃ f ∈ preS S, m ≤ f.2 := by
  have hp := Nat.two_pow_pos m
  have ha : n / 2 ^ m * 2 ^ m ≤ n ∧ n < n / 2 ^ m * 2 ^ m + 2 ^ m := ⟨Nat.div_mul_le_self n _, Nat.lt_div_mul_add hp⟩
  obtain ⟨x, hx, hx1, hx2⟩ := h n rfl
  have hall : ∀ i, n / 2 ^ m * 2 ^ m ≤ i → i < n / 2 ^ m * 2 ^ m + 2 ^ m → hasS S i := fun i h1 h2 => h i (by
    rw [Nat.div_eq_iff hp]
    constructor
    · exact h1
    · omega)
  have hr := run_in hS hx hall ha ⟨hx1, hx2⟩
  have hn : hasS ((preG x.1 x.2).map bkS) n := (preG_has x.1 x.2 n).2 ⟨hx1, hx2⟩
  obtain ⟨z, hz, hz1, hz2⟩ := hn
  obtain ⟨f, hf, rfl⟩ := List.mem_map.1 hz
  exact ⟨f, List.mem_flatMap.2 ⟨x, hx, hf⟩, preG_max _ x.1 x.2 (Nat.le_refl _) (hb x hx) f hf (n / 2 ^ m * 2 ^ m, m) ⟨n / 2 ^ m, by rw [Nat.mul_comm]⟩ hr.1 hr.2 n ⟨hz1, hz2⟩ ha⟩
end Go.Proofs.YtajifionclpphaaGreatDoor

namespace Go.Proofs.YtajifionclpphaaGreatDoor
/-- A lease, a pool. -/
structure Le where
  key : List UInt8
  pf : Pf
structure Pl where
  pf : Pf
  kept : List Pf
  ls : List Le
def inP (p : Pf) (n : Nat) : Prop := inK (bkP p) n
def insP (p q : Pf) : Prop := ∀ n, inP p n → inP q n
def offP (p q : Pf) : Prop := ∀ n, inP p n → ¬ inP q n
theorem offP.symm {p q : Pf} (h : offP p q) : offP q p := fun n h1 h2 => h n h2 h1
theorem inP_first (p : Pf) : inP p (bkP p).1 := ⟨Nat.le_refl _, by have := Nat.two_pow_pos (bkP p).2; omega⟩
/-- A pool that is right. -/
structure OkPl (P : Pl) : Prop where
  pf : okP P.pf
  kept : ∀ k ∈ P.kept, okP k ∧ insP k P.pf
  ls : ∀ x ∈ P.ls, okP x.pf ∧ insP x.pf P.pf ∧ x.pf.bits ≤ P.pf.bits + 20
  ord : P.ls.Pairwise (fun x y => x.key < y.key)
  off : P.ls.Pairwise (fun x y => offP x.pf y.pf)
  offK : ∀ x ∈ P.ls, ∀ k ∈ P.kept, offP x.pf k
/-- What is free. -/
def freeN (P : Pl) (n : Nat) : Prop := inP P.pf n ∧ (∀ k ∈ P.kept, ¬ inP k n) ∧ ∀ x ∈ P.ls, ¬ inP x.pf n
theorem clr_less {x : Int} {a b : Nat} (h : clr x a = x) (hb : b ≤ a) : clr x b = x := by
  unfold clr at *
  have e : (2 : Int) ^ a = 2 ^ b * 2 ^ (a - b) := by rw [← Int.pow_add, show b + (a - b) = a by omega]
  have hd : (2 : Int) ^ b ∣ x := by
    rw [← h, e, Int.mul_comm]
    exact ⟨2 ^ (a - b) * (x / (2 ^ b * 2 ^ (a - b))), by rw [Int.mul_assoc]⟩
  exact Int.ediv_mul_cancel hd
/-- The first part of a prefix. -/
def subP (f : Pf) (n : Int) : Pf := ⟨f.six, f.hi, f.lo, n⟩
theorem subP_ok {f : Pf} (h : okP f) {n : Int} (h1 : f.bits ≤ n) (h2 : n ≤ lenA f.six) : okP (subP f n) ∧ insP (subP f n) f ∧ (bkP (subP f n)).2 = (lenA f.six - n).toNat := by
  obtain ⟨hf, hb0, m, hm, hm2, c1, c2⟩ := h
  refine ⟨⟨hf, Int.le_trans hb0 h1, (lenA f.six - n).toNat, by show lenA f.six - n = _; omega, by omega, clr_less c1 (by omega), clr_less c2 (by omega)⟩, ?_, rfl⟩
  rintro k ⟨k1, k2⟩
  refine ⟨k1, Nat.lt_of_lt_of_le k2 ?_⟩
  show keyA (adP f) + 2 ^ (lenA f.six - n).toNat ≤ keyA (adP f) + 2 ^ (lenA f.six - f.bits).toNat
  have := Nat.pow_le_pow_right (n := 2) (by decide) (show (lenA f.six - n).toNat ≤ (lenA f.six - f.bits).toNat by omega)
  omega
/-- A prefix within another one is of its family, and no greater. -/
theorem ins_six {p q : Pf} (hp : okP p) (hq : okP q) (h : insP p q) : p.six = q.six ∧ (bkP p).2 ≤ (bkP q).2 := by
  have h1 := h _ (inP_first p)
  have h2 := h ((bkP p).1 + (2 ^ (bkP p).2 - 1)) ⟨by omega, by have := Nat.two_pow_pos (bkP p).2; omega⟩
  have b1 := (bkP_al hp).2.2
  have b2 := (bkP_al hq).2.2
  have e1 := fam_apart
  have hs : ∀ x : Pf, okP x → (x.six = true → sixAt ≤ (bkP x).1) := fun x _ hx => by
    show sixAt ≤ keyN x.six _
    unfold keyN
    rw [hx]
    simp
  have pp := Nat.two_pow_pos (bkP p).2
  have pq := Nat.two_pow_pos (bkP q).2
  refine ⟨?_, ?_⟩
  · rcases hp6 : p.six with _ | _ <;> rcases hq6 : q.six with _ | _
    · rfl
    · have := hs q hq hq6
      rw [hp6] at b1
      have := h1.1
      omega
    · have := hs p hp hp6
      rw [hq6] at b2
      have := h1.2
      omega
    · rfl
  · refine (Nat.pow_le_pow_iff_right (a := 2) (by decide)).1 ?_
    have := h1.1
    have := h2.2
    omega
/-- How a place is chosen. -/
def pick1 (best : Bool) (n : Int) (a : Pf × Bool) (f : Pf) : Pf × Bool := if decide (f.bits ≤ n) && (!a.2 || (best && decide (a.1.bits < f.bits))) then (f, true) else a
theorem pick_law (best : Bool) (n : Int) : ∀ (L : List Pf) (a : Pf × Bool) (M : List Pf), (a.2 = true → a.1 ∈ M ∧ a.1.bits ≤ n) → ((L.foldl (pick1 best n) a).2 = true → (L.foldl (pick1 best n) a).1 ∈ M ++ L ∧ (L.foldl (pick1 best n) a).1.bits ≤ n) ∧ ((a.2 = true ∨ ∃ f ∈ L, f.bits ≤ n) → (L.foldl (pick1 best n) a).2 = true)
  | [], a, M, h => ⟨fun h2 => by rw [List.append_nil]; exact h h2, fun h2 => h2.elim id (fun ⟨_, h3, _⟩ => by cases h3)⟩
  | f :: L, a, M, h => by
    have hst : (pick1 best n a f).2 = true → (pick1 best n a f).1 ∈ M ++ [f] ∧ (pick1 best n a f).1.bits ≤ n := by
      unfold pick1
      split
      · rename_i hc
        intro _
        exact ⟨by simp, by simp only [Bool.and_eq_true, decide_eq_true_eq] at hc; exact hc.1⟩
      · intro h2
        exact ⟨by simp [(h h2).1], (h h2).2⟩
    obtain ⟨q1, q2⟩ := pick_law best n L (pick1 best n a f) (M ++ [f]) hst
    rw [List.foldl_cons]
    refine ⟨fun h2 => by have := q1 h2; rwa [List.append_assoc] at this, fun h2 => q2 ?_⟩
    by_cases hb : f.bits ≤ n
    · left
      unfold pick1
      split
      · rfl
      · rename_i hc
        by_cases ha : a.2 = true
        · exact ha
        · exact absurd (by simp [hb, ha]) hc
    · rcases h2 with h2 | ⟨g, hg, hgb⟩
      · left
        unfold pick1
        split
        · rfl
        · exact h2
      · rcases List.mem_cons.1 hg with rfl | hg
        · exact absurd hgb hb
        · exact .inr ⟨g, hg, hgb⟩
/-- A pool with another lease. -/
theorem OkPl.lease {P Q : Pl} {x : Le} (h : OkPl P) (hx : okP x.pf) (hb : x.pf.bits ≤ P.pf.bits + 20) (hf : ∀ n, inP x.pf n → freeN P n) (e1 : Q.pf = P.pf) (e2 : Q.kept = P.kept) (e3 : Q.ls.Perm (P.ls ++ [x])) (hord : Q.ls.Pairwise (fun x y => x.key < y.key)) :
    OkPl Q ∧ ∀ n, freeN Q n ↔ freeN P n ∧ ¬ inP x.pf n := by
  have hm : ∀ y, y ∈ Q.ls ↔ y ∈ P.ls ∨ y = x := fun y => by rw [e3.mem_iff]; simp
  refine ⟨⟨by rw [e1]; exact h.pf, by rw [e1, e2]; exact h.kept, fun y hy => ?_, hord, ?_, fun y hy k hk => ?_⟩, fun n => ?_⟩
  · rw [e1]
    rcases (hm y).1 hy with hy | rfl
    · exact h.ls y hy
    · exact ⟨hx, fun n hn => (hf n hn).1, hb⟩
  · rw [e3.pairwise_iff (fun h => h.symm)]
    refine List.pairwise_append.2 ⟨h.off, by simp, fun a ha b hb' => ?_⟩
    obtain rfl : b = x := by simpa using hb'
    exact fun n h1 h2 => (hf n h2).2.2 a ha h1
  · rw [e2] at hk
    rcases (hm y).1 hy with hy | rfl
    · exact h.offK y hy k hk
    · exact fun n h1 h2 => (hf n h1).2.1 k hk h2
  · unfold freeN
    rw [e1, e2]
    constructor
    · rintro ⟨h1, h2, h3⟩
      exact ⟨⟨h1, h2, fun y hy => h3 y ((hm y).2 (.inl hy))⟩, h3 x ((hm x).2 (.inr rfl))⟩
    · rintro ⟨⟨h1, h2, h3⟩, h4⟩
      refine ⟨h1, h2, fun y hy => ?_⟩
      rcases (hm y).1 hy with hy | rfl
      · exact h3 y hy
      · exact h4
/-- A pool without its leases. -/
def barePl (P : Pl) : Pl := ⟨P.pf, P.kept, []⟩
theorem bare_ok {P : Pl} (h : OkPl P) : OkPl (barePl P) := ⟨h.pf, h.kept, (by intro x hx; cases hx), List.Pairwise.nil, List.Pairwise.nil, (by intro x hx; cases hx)⟩
/-- A pool that is packed so far: some leases have been laid anew, of the sizes of those of the old pool that came first. -/
structure PkI (P : Pl) (l : List Le) (j : Nat) (Q : Pl) : Prop where
  ok : OkPl Q
  pf : Q.pf = P.pf
  kept : Q.kept = P.kept
  room : PackI (freeN (barePl P)) (famE true) ((l.take j).map (fun x => (bkP x.pf).2)) (freeN Q)
  keys : ∃ M : List Le, Q.ls.Perm M ∧ M.map (fun x => (x.key, x.pf.bits)) = (l.take j).map (fun x => (x.key, x.pf.bits))
theorem PkI.start {P : Pl} (h : OkPl P) (l : List Le) : PkI P l 0 (barePl P) := ⟨bare_ok h, rfl, rfl, PackI.start _ _, [], List.Perm.refl _, rfl⟩
theorem fam_le (s : Bool) : famE s ≤ famE true := by
  have := fam_apart
  have e := famE_true
  cases s
  · omega
  · exact Nat.le_refl _
/-- The next one has room: one of the free prefixes is as great. -/
theorem PkI.next {P Q : Pl} {l : List Le} {j : Nat} {S : List Sn} (h : PkI P l j Q) (hP : OkPl P) (hl : l.Perm P.ls) (hs : l.Pairwise (fun x y => x.pf.bits ≤ y.pf.bits)) (hj : j < l.length) (hS : NormS S) (hf : ∀ x ∈ S, famOk x) (hfree : ∀ n, hasS S n ↔ freeN Q n) :
    ∃ f ∈ preS S, (bkP (l[j]).pf).2 ≤ f.2 := by
  have hin : ∀ x ∈ l, okP x.pf ∧ insP x.pf P.pf ∧ x.pf.bits ≤ P.pf.bits + 20 := fun x hx => hP.ls x (hl.mem_iff.1 hx)
  have hle : ∀ x y : Le, x ∈ l → y ∈ l → x.pf.bits ≤ y.pf.bits → (bkP y.pf).2 ≤ (bkP x.pf).2 := fun x y hx hy hb => by
    have e1 := (ins_six (hin x hx).1 hP.pf (hin x hx).2.1).1
    have e2 := (ins_six (hin y hy).1 hP.pf (hin y hy).2.1).1
    show (lenA y.pf.six - y.pf.bits).toNat ≤ (lenA x.pf.six - x.pf.bits).toNat
    rw [e1, e2]
    omega
  obtain ⟨n, hn⟩ := h.room.room (m := (bkP (l[j]).pf).2) (rest := (l.drop (j + 1)).map (fun x => (bkP x.pf).2)) (Bs := P.ls.map (fun x => bkP x.pf)) (fun b hb => by
      obtain ⟨x, hx, rfl⟩ := List.mem_map.1 hb
      obtain ⟨a1, a2, a3⟩ := bkP_al (hP.ls x hx).1
      exact ⟨a1, Nat.le_trans a3 (fam_le _), fun n hn => ⟨(hP.ls x hx).2.1 n hn, fun k hk hk2 => hP.offK x hx k hk n hn hk2, fun y hy => by cases hy⟩⟩) (by
      rw [List.pairwise_map]
      exact hP.off) (by
      have e : (l.take j).map (fun x => (bkP x.pf).2) ++ (bkP (l[j]).pf).2 :: (l.drop (j + 1)).map (fun x => (bkP x.pf).2) = l.map (fun x => (bkP x.pf).2) := by
        have e1 : l = l.take j ++ l[j] :: l.drop (j + 1) := by rw [← List.drop_eq_getElem_cons hj, List.take_append_drop]
        conv => rhs; rw [e1]
        rw [List.map_append, List.map_cons]
      rw [e, List.map_map]
      exact hl.map _) (fun x hx => by
      obtain ⟨y, hy, rfl⟩ := List.mem_map.1 hx
      obtain ⟨i, hi, rfl⟩ := List.mem_iff_getElem.1 hy
      have hi' : i < j := by rw [List.length_take] at hi; omega
      rw [List.getElem_take]
      exact hle _ _ (List.getElem_mem _) (List.getElem_mem _) (List.pairwise_iff_getElem.1 hs i j (by omega) hj hi'))
  exact fits_pre hS (fun x hx => famOk_len (hf x hx)) (m := (bkP (l[j]).pf).2) (n := n) (fun i hi => (hfree i).2 (hn i hi))
theorem PkI.step {P Q Q' : Pl} {l : List Le} {j : Nat} {x : Le} (h : PkI P l j Q) (hj : j < l.length) (hk : x.key = (l[j]).key) (hb : x.pf.bits = (l[j]).pf.bits) (hm : (bkP x.pf).2 = (bkP (l[j]).pf).2)
    (hx : okP x.pf) (hb2 : x.pf.bits ≤ P.pf.bits + 20) (hf : ∀ n, inP x.pf n → freeN Q n) (e1 : Q'.pf = Q.pf) (e2 : Q'.kept = Q.kept) (e3 : Q'.ls.Perm (Q.ls ++ [x])) (hord : Q'.ls.Pairwise (fun x y => x.key < y.key)) : PkI P l (j + 1) Q' := by
  obtain ⟨q1, q2⟩ := h.ok.lease hx (by rw [h.pf]; exact hb2) hf e1 e2 e3 hord
  obtain ⟨M, m1, m2⟩ := h.keys
  have et : l.take (j + 1) = l.take j ++ [l[j]] := by rw [List.take_add_one, List.getElem?_eq_getElem hj]; rfl
  obtain ⟨a1, a2, a3⟩ := bkP_al hx
  refine ⟨q1, e1.trans h.pf, e2.trans h.kept, ?_, M ++ [x], e3.trans (m1.append_right [x]), ?_⟩
  · rw [et, List.map_append, List.map_singleton, ← hm]
    exact h.room.step a1 (Nat.le_trans a3 (fam_le _)) hf q2
  · rw [et, List.map_append, List.map_append, m2, List.map_singleton, List.map_singleton, hk, hb]
/-- At its end the packed pool has the same keys and sizes, in the same order. -/
theorem PkI.last {P Q : Pl} {l : List Le} (h : PkI P l l.length Q) (hP : OkPl P) (hl : l.Perm P.ls) : Q.ls.map (fun x => (x.key, x.pf.bits)) = P.ls.map (fun x => (x.key, x.pf.bits)) := by
  obtain ⟨M, m1, m2⟩ := h.keys
  rw [List.take_length] at m2
  have hp : (Q.ls.map (fun x => (x.key, x.pf.bits))).Perm (P.ls.map (fun x => (x.key, x.pf.bits))) := (m1.map _).trans (m2 ▸ hl.map _)
  have ho : ∀ {R : Pl}, OkPl R → (R.ls.map (fun x => (x.key, x.pf.bits))).Pairwise (fun a b => a.1 < b.1) := fun hR => by
    rw [List.pairwise_map]
    exact hR.ord
  exact hp.eq_of_pairwise (fun _ _ _ _ h1 h2 => absurd h1 (List.lt_asymm h2)) (ho h.ok) (ho hP)
end Go.Proofs.YtajifionclpphaaGreatDoor
