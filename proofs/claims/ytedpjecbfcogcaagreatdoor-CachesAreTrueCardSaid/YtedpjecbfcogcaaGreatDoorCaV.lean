/- CachesAreTrue: what holds at each round. -/
import Derived.Test.YtedpjecbfcogcaaGreatDoorCaH
import Derived.Test.YtedpjecbfcogcaaGreatDoorMap
namespace Go.Proofs.YtedpjecbfcogcaaGreatDoor
open Go.RowKit Go.Hw Go.Shelf

/-- What was put last. -/
structure Pt where
  at_ : Int
  lA : Option Addr
  lcap : Nat
  recs : List Rec
def ptV (p : Pt) : Value := .agg #[.int .i64 p.at_, .slice p.lA p.recs.length p.lcap]

theorem toList_inj {a b : ByteArray} (h : a.toList = b.toList) : a = b := by
  rw [ByteArray.toList_eq, ByteArray.toList_eq] at h
  exact ByteArray.ext (Array.toList_inj.1 h)
theorem same_name {n : ByteArray} {k : Int} {e : Kp} (h : sameB n k e = true) : e.name = n ∧ e.kind = k := by
  unfold sameB at h
  rw [Bool.and_eq_true] at h
  exact ⟨toList_inj (by simpa using h.1), by simpa using h.2⟩
theorem other_name {n : ByteArray} {k : Int} {e : Kp} (h : sameB n k e = false) (hk : e.kind = k) : e.name ≠ n := by
  intro hn
  unfold sameB at h
  rw [hn, hk] at h
  simp at h

/-- The row of a put. -/
structure PtRow (w : World) (S T M : Nat) (Aa : Option Addr) (p : Pt) : Prop where
  row : rcAt w p.lA p.recs
  nil : p.lA = none → p.recs = []
  ne : ∀ a, p.lA = some a → a.block < w.heap.size ∧ a.block ≠ S ∧ a.block ≠ T ∧ a.block ≠ M ∧ aB Aa ≠ some a.block
  few : p.recs.length ≤ 50
  lives : ∀ r ∈ p.recs, 0 ≤ r.life ∧ r.life ≤ 1000000
theorem PtRow.keep {w w' : World} {S T M : Nat} {Aa : Option Addr} {p : Pt} (h : PtRow w S T M Aa p) (hs : w.heap.size ≤ w'.heap.size) (hk : ∀ k, k < w.heap.size → k ≠ S → k ≠ T → k ≠ M → aB Aa ≠ some k → w'.heap[k]? = w.heap[k]?) : PtRow w' S T M Aa p :=
  ⟨h.row.kept hs fun a ha hl => let ⟨_, h2, h3, h4, h5⟩ := h.ne a ha; hk _ hl h2 h3 h4 h5, h.nil, fun a ha => let ⟨h1, h2⟩ := h.ne a ha; ⟨Nat.lt_of_lt_of_le h1 hs, h2⟩, h.few, h.lives⟩

/-- What holds at each round. -/
structure CwI (w : World) (S T M : Nat) (sA : Option Addr) (scap : Nat) (l : List Int) (most : Int) (x calls cnow : Int) (Aa : Option Addr) (cap : Nat) (L : List Kp) (m : List (ByteArray × Pt)) (wr : World) : Prop where
  str : Str wr S sA scap l x
  below : Below w.heap.size w wr
  ca : CaAt wr T most cnow calls Aa cap L
  mp : MapIs wr M ptV m
  base : w.heap.size ≤ S
  sT : S < T
  sM : S < M
  tM : T ≠ M
  sA' : ∀ k, aB Aa = some k → S < k ∧ k ≠ M
  rows : ∀ e ∈ L, KpRow wr T Aa e
  rowsS : ∀ e ∈ L, ∀ a, e.lA = some a → a.block ≠ S ∧ a.block ≠ M
  pts : ∀ n p, get m n = some p → PtRow wr S T M Aa p
  link : ∀ e ∈ L, e.kind = 1 ∧ 0 ≤ e.put ∧ e.put ≤ cnow ∧ ∃ p, get m e.name = some p ∧ p.at_ = e.put ∧ p.recs = e.recs ∧ e.life ≤ 30 ∧ ∀ r ∈ e.recs, e.life ≤ r.life
  few : (L.length : Int) ≤ most
variable {w wr wr' : World} {S T M : Nat} {sA : Option Addr} {scap : Nat} {l : List Int} {most x x' calls cnow : Int} {Aa : Option Addr} {cap : Nat} {L : List Kp} {m : List (ByteArray × Pt)}
/-- Blocks other than S, T, M and the row's are as they were. -/
theorem CwI.go (h : CwI w S T M sA scap l most x calls cnow Aa cap L m wr) (hs : Str wr' S sA scap l x') (hb : Below w.heap.size w wr') (hz : wr.heap.size ≤ wr'.heap.size) (hk : ∀ k, k < wr.heap.size → k ≠ S → wr'.heap[k]? = wr.heap[k]?) : CwI w S T M sA scap l most x' calls cnow Aa cap L m wr' :=
  { h with
    str := hs
    below := hb
    ca := h.ca.keep (hk T h.ca.lt (by have := h.sT; omega)) fun k hk' => hk k (h.ca.ltA hk') (by have := (h.sA' k hk').1; omega)
    mp := h.mp.keep (hk M h.mp.lt (by have := h.sM; omega))
    rows := fun e he => by
      have hr := h.rows e he
      refine ⟨hr.row.kept hz fun a ha hl => hk _ hl (h.rowsS e he a ha).1, hr.nil, fun a ha => ?_, hr.few, hr.lives⟩
      obtain ⟨h1, h2⟩ := hr.ne a ha
      exact ⟨Nat.lt_of_lt_of_le h1 hz, h2⟩
    pts := fun n p hp => (h.pts n p hp).keep hz fun k hk1 hk2 _ _ _ => hk k hk1 hk2 }
theorem CwI.stream (h : CwI w S T M sA scap l most x calls cnow Aa cap L m wr) (hs : Str wr' S sA scap l x') (hg : wr.grownBy wr' (some S)) : CwI w S T M sA scap l most x' calls cnow Aa cap L m wr' :=
  h.go hs (h.below.grown hg h.below.size (fun k e => by have e' : S = k := Option.some.inj e; have := h.base; omega)) hg.size fun k hk hn => hg.block k hk (fun c => hn (Option.some.inj c))
theorem CwI.next (h : CwI w S T M sA scap l most x calls cnow Aa cap L m wr) (hb : Below wr.heap.size wr wr') : CwI w S T M sA scap l most x calls cnow Aa cap L m wr' :=
  h.stream (h.str.grown (grownB hb none) (fun k e => by cases e)) (grownB hb _)
theorem CwI.alloc (h : CwI w S T M sA scap l most x calls cnow Aa cap L m wr) (o : Obj) : CwI w S T M sA scap l most x calls cnow Aa cap L m (wr.alloc o) := h.stream (h.str.alloc o) (World.grownBy_alloc _ _ _)
theorem CwI.kpIn (h : CwI w S T M sA scap l most x calls cnow Aa cap L m wr) (hc : cnow ≤ 1000000) : KpIn L := fun e he => by
  obtain ⟨_, h1, h2, _⟩ := h.link e he
  exact ⟨h1, by omega⟩
theorem CwI.strC (h : CwI w S T M sA scap l most x calls cnow Aa cap L m wr) (hc : Rchg (CaF T Aa) wr wr') : Str wr' S sA scap l x := by
  have hS : ∀ k, k ≤ S → ¬ CaF T Aa k := fun k hk c => by
    rcases c with c | c
    · have := h.sT; omega
    · have := (h.sA' k c).1; omega
  exact h.str.keep (hc.block S h.str.lt (hS S (Nat.le_refl _))) fun p hp => World.cell?_of_block (hc.block p.block (by have := h.str.lt; omega) (hS _ (by omega)))
theorem CwI.belowC (h : CwI w S T M sA scap l most x calls cnow Aa cap L m wr) (hc : Rchg (CaF T Aa) wr wr') : Below w.heap.size w wr' :=
  hc.below h.below h.below.size fun k hk c => by
    have := h.base
    rcases c with c | c
    · have := h.sT; omega
    · have := (h.sA' k c).1; omega
theorem CwI.mpC (h : CwI w S T M sA scap l most x calls cnow Aa cap L m wr) (hc : Rchg (CaF T Aa) wr wr') : MapIs wr' M ptV m :=
  h.mp.keep (hc.block M h.mp.lt fun c => by
    rcases c with c | c
    · exact h.tM c.symm
    · exact (h.sA' M c).2 rfl)
theorem CwI.ptC (h : CwI w S T M sA scap l most x calls cnow Aa cap L m wr) (hc : Rchg (CaF T Aa) wr wr') : ∀ n p, get m n = some p → PtRow wr' S T M Aa p := fun n p hp =>
  (h.pts n p hp).keep hc.size fun k hk _ h3 _ h5 => hc.block k hk fun c => by
    rcases c with c | c
    · exact h3 c
    · exact h5 c
/-- The cache has let entries go, and has used some. -/
theorem CwI.sub {K : List Kp} {at_ calls' : Int} (h : CwI w S T M sA scap l most x calls cnow Aa cap L m wr) (hca : CaAt wr' T most at_ calls' Aa cap K) (hc : Rchg (CaF T Aa) wr wr') (hnow : cnow ≤ at_) (hlen : K.length ≤ L.length)
    (hK : ∀ x ∈ K, ∃ y ∈ L, goesB at_ y = false ∧ ∃ u, x = { y with used := u }) : CwI w S T M sA scap l most x calls' at_ Aa cap K m wr' :=
  { str := h.strC hc
    below := h.belowC hc
    ca := hca
    mp := h.mpC hc
    base := h.base
    sT := h.sT
    sM := h.sM
    tM := h.tM
    sA' := h.sA'
    rows := fun e he => by
      obtain ⟨y, hy, _, u, rfl⟩ := hK e he
      exact ((h.rows y hy).chg hc).used u
    rowsS := fun e he => by
      obtain ⟨y, hy, _, u, rfl⟩ := hK e he
      exact h.rowsS y hy
    pts := h.ptC hc
    link := fun e he => by
      obtain ⟨y, hy, _, u, rfl⟩ := hK e he
      obtain ⟨h1, h2, h3, h4⟩ := h.link y hy
      exact ⟨h1, h2, by show y.put ≤ at_; omega, h4⟩
    few := by have := h.few; omega }
/-- The cache has kept a row, and the map tells of it. -/
theorem CwI.put {at_ calls' : Int} {Aa' : Option Addr} {cap' : Nat} {L' : List Kp} {n : ByteArray} {rA : Option Addr} {rcap : Nat} {R : List Rec} {w2 : World} (h : CwI w S T M sA scap l most x calls cnow Aa cap L m wr)
    (hca : CaAt wr' T most at_ calls' Aa' cap' L') (hc : Rchg (CaF T Aa) wr wr') (hA : ∀ k, aB Aa' = some k → aB Aa = some k ∨ wr.heap.size ≤ k) (hlen : (L'.length : Int) ≤ most) (hnow : cnow ≤ at_) (hat : 0 ≤ at_)
    (hL : ∀ x ∈ L', KpRow wr' T Aa' x ∧ ((x ∈ L ∧ goesB at_ x = false ∧ sameB n 1 x = false) ∨ (x.name = n ∧ x.kind = 1 ∧ x.put = at_ ∧ x.recs = R ∧ x.life ≤ 30 ∧ (∀ r ∈ R, x.life ≤ r.life) ∧ ∀ a, x.lA = some a → wr.heap.size ≤ a.block)))
    (hr : PtRow wr S T M Aa ⟨at_, rA, rcap, R⟩) (hm : MapIs w2 M ptV (Hw.put m n ⟨at_, rA, rcap, R⟩)) (hg : wr'.grownBy w2 (some M)) : CwI w S T M sA scap l most x calls' at_ Aa' cap' L' (Hw.put m n ⟨at_, rA, rcap, R⟩) w2 := by
  have hMlt := h.mp.lt
  have hSlt := h.str.lt
  have hTlt := h.ca.lt
  have hsA : ∀ k, aB Aa' = some k → S < k ∧ k ≠ M := fun k hk => by
    rcases hA k hk with c | c
    · exact h.sA' k c
    · exact ⟨by omega, by omega⟩
  have hs1 := h.strC hc
  have hrowS : ∀ e ∈ L', ∀ a, e.lA = some a → a.block ≠ S ∧ a.block ≠ M := fun e he a ha => by
    rcases (hL e he).2 with ⟨h1, _⟩ | ⟨_, _, _, _, _, _, h2⟩
    · exact h.rowsS e h1 a ha
    · have := h2 a ha; exact ⟨by omega, by omega⟩
  have hkeep : ∀ p : Pt, PtRow wr' S T M Aa p → (∀ a, p.lA = some a → a.block < wr.heap.size) → PtRow w2 S T M Aa' p := fun p hp hlt => by
    have hp2 := hp.keep hg.size fun k hk _ _ h4 _ => hg.block k hk (fun c => h4 (Option.some.inj c))
    refine ⟨hp2.row, hp2.nil, fun a ha => ?_, hp2.few, hp2.lives⟩
    obtain ⟨h1, h2, h3, h4, h5⟩ := hp2.ne a ha
    refine ⟨h1, h2, h3, h4, fun c => ?_⟩
    rcases hA _ c with c' | c'
    · exact h5 c'
    · have := hlt a ha; omega
  exact {
    str := hs1.grown hg (fun k e => by have e' : M = k := Option.some.inj e; rw [← e']; exact h.sM)
    below := (h.belowC hc).grown hg (h.belowC hc).size (fun k e => by have e' : M = k := Option.some.inj e; have := h.base; have := h.sM; omega)
    ca := hca.keep (hg.block T hca.lt (fun c => h.tM (Option.some.inj c))) fun k hk => hg.block k (hca.ltA hk) (fun c => (hsA k hk).2 (Option.some.inj c))
    mp := hm
    base := h.base
    sT := h.sT
    sM := h.sM
    tM := h.tM
    sA' := hsA
    rows := fun e he => by
      have hr := (hL e he).1
      refine ⟨hr.row.kept hg.size fun a ha hl => hg.block _ hl (fun c => (hrowS e he a ha).2 (Option.some.inj c)), hr.nil, fun a ha => ?_, hr.few, hr.lives⟩
      obtain ⟨h1, h2⟩ := hr.ne a ha
      exact ⟨Nat.lt_of_lt_of_le h1 hg.size, h2⟩
    rowsS := hrowS
    pts := fun n' p hp => by
      rw [get_put] at hp
      by_cases e : n' = n
      · rw [if_pos e] at hp
        injection hp with hp
        rw [← hp]
        refine hkeep _ (hr.keep hc.size fun k hk _ h3 _ h5 => hc.block k hk fun c => ?_) fun a ha => (hr.ne a ha).1
        rcases c with c | c
        · exact h3 c
        · exact h5 c
      · rw [if_neg e] at hp
        exact hkeep p (h.ptC hc n' p hp) fun a ha => ((h.pts n' p hp).ne a ha).1
    link := fun e he => by
      rcases (hL e he).2 with ⟨h1, _, h3⟩ | ⟨h1, h2, h3, h4, h5, h6, _⟩
      · obtain ⟨q1, q2, q3, p, q4, q5⟩ := h.link e h1
        refine ⟨q1, q2, by omega, p, ?_, q5⟩
        rw [get_put, if_neg (other_name h3 q1)]
        exact q4
      · refine ⟨h2, by omega, by omega, ⟨at_, rA, rcap, R⟩, ?_, h3.symm, h4.symm, h5, ?_⟩
        · rw [get_put, if_pos h1]
        · rw [h4]; exact h6
    few := hlen }
end Go.Proofs.YtedpjecbfcogcaaGreatDoor
