/- Translators: a whole translator in memory, and what stores do to it. -/
import Derived.Test.YtphjgjcbolmdiaaGreatDoorNtK
import Derived.Laws.OwnMore
namespace Go.Proofs.YtphjgjcbolmdiaaGreatDoor
open Go.RowKit Go.Hw

/-- The blocks that are not in F are as they were. -/
structure Chg (F : Nat → Prop) (w w' : World) : Prop where
  os : w'.os = w.os
  tape : w'.tape = w.tape
  output : w'.output = w.output
  size : w.heap.size ≤ w'.heap.size
  block : ∀ k, k < w.heap.size → ¬ F k → w'.heap[k]? = w.heap[k]?
/-- F, and what is new. -/
def Plus (F : Nat → Prop) (w : World) (k : Nat) : Prop := F k ∨ w.heap.size ≤ k
theorem Chg.refl (F : Nat → Prop) (w : World) : Chg F w w := ⟨rfl, rfl, rfl, Nat.le_refl _, fun _ _ _ => rfl⟩
theorem Chg.trans {F : Nat → Prop} {w w1 w2 : World} (h : Chg F w w1) (k : Chg (Plus F w) w1 w2) : Chg F w w2 :=
  ⟨k.os.trans h.os, k.tape.trans h.tape, k.output.trans h.output, Nat.le_trans h.size k.size, fun j hj hn => (k.block j (Nat.lt_of_lt_of_le hj h.size) (by rintro (c | c); exact hn c; omega)).trans (h.block j hj hn)⟩
theorem Chg.mono {F G : Nat → Prop} {w w1 : World} (h : Chg F w w1) (hFG : ∀ k, k < w.heap.size → F k → G k) : Chg G w w1 := ⟨h.os, h.tape, h.output, h.size, fun k hk hn => h.block k hk fun c => hn (hFG k hk c)⟩
theorem Chg.of_below {F : Nat → Prop} {w w1 : World} (h : Below w.heap.size w w1) : Chg F w w1 := ⟨h.os, h.tape, h.output, h.size, fun k hk _ => h.block k hk⟩
theorem Chg.of_grown {F : Nat → Prop} {w w1 : World} {row : Option Nat} (h : w.grownBy w1 row) (hF : ∀ k, row = some k → k < w.heap.size → F k) : Chg F w w1 :=
  ⟨h.os, h.tape, h.output, h.size, fun k hk hn => h.block k hk fun e => hn (hF k e.symm hk)⟩
theorem Chg.set {F : Nat → Prop} {w w1 : World} (h : Chg F w w1) {g : Nat} (hg : Plus F w g) (i : Nat) (v : Value) : Chg F w (w1.setCell ⟨g, i, none⟩ v) :=
  ⟨h.os, h.tape, h.output, by have := h.size; simpa using this, fun k hk hn => (Below.heap_setCell _ _ _ _ (fun e => by have e' : k = g := e; subst e'; rcases hg with c | c; exact hn c; omega)).trans (h.block k hk hn)⟩
theorem Plus.mono {F G : Nat → Prop} {w w1 : World} (hs : w.heap.size ≤ w1.heap.size) (h : ∀ k, F k → Plus G w k) {k : Nat} (hk : Plus F w1 k) : Plus G w k := by
  rcases hk with c | c
  · exact h k c
  · exact .inr (Nat.le_trans hs c)

theorem own_same {w w' : World} {base : Nat} {e : TypeId} {size : Nat} {v : Value} {n : Nat} {xs : List Value} (h : w.ownsRow base e size v n xs) (hk : ∀ k, v.ownBlock = some k → w'.heap[k]? = w.heap[k]?) : w'.ownsRow base e size v n xs := by
  refine ⟨h.1, ?_⟩
  rcases h.2 with hn | ⟨g, cap, cur, rfl, hb, hgg, rest⟩
  · exact .inl hn
  · exact .inr ⟨g, cap, cur, rfl, hb, (hk g rfl).trans hgg, rest⟩

def svE (e : Ent) : Value := .slice e.sA e.sent.length e.scap
/-- A translator lies in memory, in blocks of F. -/
structure TrAt (w : World) (F : Nat → Prop) (T : Nat) (n : NatC) (now next : Int) (A : Option Addr) (cap : Nat) (L : List Ent) : Prop where
  blk : w.heap[T]? = some (trObj n now next (.slice A L.length cap))
  own : w.ownsRow 0 97 11 (.slice A L.length cap) L.length (entsC L)
  sent : ∀ e ∈ L, w.ownsRow 0 42 4 (svE e) e.sent.length (spotsC e.sent)
  hA : (Value.slice A L.length cap).ownBlock ≠ some T
  hS : ∀ e ∈ L, (svE e).ownBlock ≠ some T ∧ ∀ k, (svE e).ownBlock = some k → (Value.slice A L.length cap).ownBlock ≠ some k
  sep : L.Pairwise fun e e' => ∀ k, (svE e).ownBlock = some k → (svE e').ownBlock ≠ some k
  fT : F T
  fA : ∀ k, (Value.slice A L.length cap).ownBlock = some k → F k
  fS : ∀ e ∈ L, ∀ k, (svE e).ownBlock = some k → F k
theorem TrAt.keep {w w' : World} {F G : Nat → Prop} {T : Nat} {n : NatC} {now next : Int} {A : Option Addr} {cap : Nat} {L : List Ent} (h : TrAt w F T n now next A cap L) (hk : ∀ k, F k → k < w.heap.size → w'.heap[k]? = w.heap[k]?) (hG : ∀ k, F k → G k) : TrAt w' G T n now next A cap L :=
  { h with
    blk := (hk T h.fT (tr_lt h.blk)).trans h.blk
    own := own_same h.own fun k e => hk k (h.fA k e) (h.own.lt k e).2
    sent := fun e he => own_same (h.sent e he) fun k hk' => hk k (h.fS e he k hk') ((h.sent e he).lt k hk').2
    fT := hG _ h.fT
    fA := fun k e => hG _ (h.fA k e)
    fS := fun e he k hk' => hG _ (h.fS e he k hk') }
theorem TrAt.below {w w' : World} {F : Nat → Prop} {T : Nat} {n : NatC} {now next : Int} {A : Option Addr} {cap : Nat} {L : List Ent} (h : TrAt w F T n now next A cap L) (hb : Below w.heap.size w w') : TrAt w' F T n now next A cap L :=
  h.keep (fun k _ hk => hb.block k hk) fun _ h => h
theorem TrAt.ents {w : World} {F : Nat → Prop} {T : Nat} {n : NatC} {now next : Int} {A : Option Addr} {cap : Nat} {L : List Ent} (h : TrAt w F T n now next A cap L) : EntsAt w A L := by
  obtain ⟨A', cap', e, hE⟩ := ents_at h.own
  injection e with e1 _ e3
  subst e1 e3
  exact hE

/-- One entry is turned in one cell. -/
theorem entsC_set : ∀ (L : List Ent) (i j : Nat) (e' : Ent) (v : Value), i < L.length → j < 11 → entC e' = (entC (L.getD i noEnt)).set j v → entsC (L.set i e') = (entsC L).set (i * 11 + j) v
  | [], i, _, _, _, h, _, _ => by simp at h
  | x :: L, 0, j, e', v, _, hj, he => by
    have e : entsC (x :: L) = entC x ++ entsC L := rfl
    have e2 : entsC ((x :: L).set 0 e') = entC e' ++ entsC L := rfl
    rw [e2, e, List.set_append_left _ _ (by simp [entC]; omega)]
    simp only [List.getD_cons_zero] at he
    rw [he]
    simp
  | x :: L, i + 1, j, e', v, h, hj, he => by
    have e : entsC (x :: L) = entC x ++ entsC L := rfl
    have e2 : entsC ((x :: L).set (i + 1) e') = entC x ++ entsC (L.set i e') := rfl
    have hl : (entC x).length = 11 := rfl
    have := entsC_set L i j e' v (by simpa using h) hj (by simpa using he)
    rw [e2, e, this, List.set_append_right _ _ (by rw [hl]; omega), hl, show (i + 1) * 11 + j - 11 = i * 11 + j by omega]
theorem set_sep {L : List Ent} {i : Nat} {e' : Ent} (h : L.Pairwise fun e e' => ∀ k, (svE e).ownBlock = some k → (svE e').ownBlock ≠ some k) (hs : (svE e').ownBlock = (svE (L.getD i noEnt)).ownBlock) :
    (L.set i e').Pairwise fun e e' => ∀ k, (svE e).ownBlock = some k → (svE e').ownBlock ≠ some k := by
  rw [List.pairwise_iff_getElem] at h ⊢
  intro a b ha hb hab k
  have ha' : a < L.length := by simpa using ha
  have hb' : b < L.length := by simpa using hb
  have h1 := h a b ha' hb' hab k
  have eq : ∀ c (hc : c < L.length), (svE ((L.set i e')[c]'(by simpa using hc))).ownBlock = (svE L[c]).ownBlock := by
    intro c hc
    rw [List.getElem_set]
    split
    · rename_i e; subst e; rw [hs, List.getD_eq_getElem?_getD, List.getElem?_eq_getElem hc]; rfl
    · rfl
  rw [eq a ha', eq b hb']
  exact h1
/-- The translator's own object is turned. -/
theorem TrAt.turn {w w' : World} {F : Nat → Prop} {T : Nat} {n : NatC} {now next now' next' : Int} {A : Option Addr} {cap : Nat} {L : List Ent} (h : TrAt w F T n now next A cap L) (hg : w.grownBy w' (some T)) (hb : w'.heap[T]? = some (trObj n now' next' (.slice A L.length cap))) : TrAt w' F T n now' next' A cap L :=
  { h with
    blk := hb
    own := own_same h.own fun k e => hg.block k (h.own.lt k e).2 (fun c => h.hA (e.trans c))
    sent := fun e he => own_same (h.sent e he) fun k hk => hg.block k ((h.sent e he).lt k hk).2 (fun c => (h.hS e he).1 (hk.trans c)) }
theorem mem_set_or {L : List Ent} {i : Nat} {e' x : Ent} (h : x ∈ L.set i e') : x = e' ∨ x ∈ L := by
  rcases List.mem_or_eq_of_mem_set h with h | h
  · exact .inr h
  · exact .inl h
theorem getD_mem {L : List Ent} {i : Nat} (hi : i < L.length) : L.getD i noEnt ∈ L := by
  rw [List.getD_eq_getElem?_getD, List.getElem?_eq_getElem hi]
  exact List.getElem_mem hi
theorem heap_set_other {w : World} {g i k : Nat} {v : Value} (h : k ≠ g) : (w.setCell ⟨g, i, none⟩ v).heap[k]? = w.heap[k]? := Below.heap_setCell _ _ _ _ h
/-- The last moment of an entry is turned. -/
theorem TrAt.setLast {w : World} {F : Nat → Prop} {T : Nat} {n : NatC} {now next at_ : Int} {g cap : Nat} {L : List Ent} (h : TrAt w F T n now next (some ⟨g, 0, none⟩) cap L) {i : Nat} (hi : i < L.length) :
    TrAt (w.setCell ⟨g, i * 11 + 9, none⟩ (.int .i64 at_)) F T n now next (some ⟨g, 0, none⟩) cap (L.set i { L.getD i noEnt with last := at_ }) := by
  have hst := World.ownsRow.stored h.own (i * 11 + 9) (.int .i64 at_)
  have hes := entsC_set L i 9 { L.getD i noEnt with last := at_ } (.int .i64 at_) hi (by omega) rfl
  have hlen : (L.set i { L.getD i noEnt with last := at_ }).length = L.length := by simp
  have hT : T ≠ g := fun e => h.hA (by rw [e]; rfl)
  have hm := getD_mem hi
  have hsv : ∀ x ∈ L.set i { L.getD i noEnt with last := at_ }, ∃ y ∈ L, svE x = svE y ∧ x.sent = y.sent := by
    intro x hx
    rcases mem_set_or hx with rfl | hx
    · exact ⟨_, hm, rfl, rfl⟩
    · exact ⟨x, hx, rfl, rfl⟩
  refine ⟨?_, ?_, ?_, ?_, ?_, set_sep h.sep rfl, h.fT, ?_, ?_⟩
  · rw [hlen, heap_set_other hT]; exact h.blk
  · rw [hlen, hes]; exact hst.1
  · intro x hx
    obtain ⟨y, hy, e1, e2⟩ := hsv x hx
    rw [e1, e2]
    exact own_same (h.sent y hy) fun k hk => heap_set_other (fun c => (h.hS y hy).2 k hk (by rw [c]; rfl))
  · rw [hlen]; exact h.hA
  · intro x hx
    obtain ⟨y, hy, e1, _⟩ := hsv x hx
    rw [e1, hlen]
    exact h.hS y hy
  · rw [hlen]; exact h.fA
  · intro x hx
    obtain ⟨y, hy, e1, _⟩ := hsv x hx
    rw [e1]
    exact h.fS y hy
/-- The row of an entry is turned. -/
theorem TrAt.setSent {w w1 : World} {F : Nat → Prop} {T : Nat} {n : NatC} {now next : Int} {g cap : Nat} {L : List Ent} (h : TrAt w F T n now next (some ⟨g, 0, none⟩) cap L) {i : Nat} (hi : i < L.length) (sA' : Option Addr) (scap' : Nat) (sent' : List Spot)
    (hg : w.grownBy w1 (svE (L.getD i noEnt)).ownBlock) (hn : w1.ownsRow 0 42 4 (.slice sA' sent'.length scap') sent'.length (spotsC sent')) (hat : ∀ k, (Value.slice sA' sent'.length scap').ownBlock = some k → (svE (L.getD i noEnt)).ownBlock = some k ∨ w.heap.size ≤ k) :
    TrAt (w1.setCell ⟨g, i * 11 + 10, none⟩ (.slice sA' sent'.length scap')) (Plus F w) T n now next (some ⟨g, 0, none⟩) cap (L.set i { L.getD i noEnt with sA := sA', scap := scap', sent := sent' }) := by
  have hm := getD_mem hi
  have hown1 : w1.ownsRow 0 97 11 (.slice (some ⟨g, 0, none⟩) L.length cap) L.length (entsC L) := own_same h.own fun k e => hg.block k (h.own.lt k e).2 (fun c => (h.hS _ hm).2 k c.symm e)
  have hst := World.ownsRow.stored hown1 (i * 11 + 10) (.slice sA' sent'.length scap')
  have hes := entsC_set L i 10 { L.getD i noEnt with sA := sA', scap := scap', sent := sent' } (.slice sA' sent'.length scap') hi (by omega) rfl
  have hlen : (L.set i { L.getD i noEnt with sA := sA', scap := scap', sent := sent' }).length = L.length := by simp
  have hT : T ≠ g := fun e => h.hA (by rw [e]; rfl)
  have hTl := tr_lt h.blk
  have hgl : g < w.heap.size := (h.own.lt g rfl).2
  have hnew : ∀ k, (Value.slice sA' sent'.length scap').ownBlock = some k → k ≠ T ∧ k ≠ g := by
    intro k hk
    rcases hat k hk with c | c
    · exact ⟨fun e => (h.hS _ hm).1 (by rw [c, e]), fun e => (h.hS _ hm).2 k c (by rw [e]; rfl)⟩
    · exact ⟨by omega, by omega⟩
  have hold : ∀ y ∈ L, ∀ k, (svE y).ownBlock = some k → k ≠ g := fun y hy k hk c => (h.hS y hy).2 k hk (by rw [c]; rfl)
  -- the other rows
  have hoth : ∀ j, j < L.length → j ≠ i → w1.ownsRow 0 42 4 (svE (L.getD j noEnt)) (L.getD j noEnt).sent.length (spotsC (L.getD j noEnt).sent) := by
    intro j hj hji
    refine own_same (h.sent _ (getD_mem hj)) fun k hk => hg.block k ((h.sent _ (getD_mem hj)).lt k hk).2 (fun c => ?_)
    have hp := List.pairwise_iff_getElem.1 h.sep
    have ej : L.getD j noEnt = L[j] := by simp [List.getElem?_eq_getElem hj]
    have ei : L.getD i noEnt = L[i] := by simp [List.getElem?_eq_getElem hi]
    rw [ej] at hk
    rw [ei] at c
    rcases Nat.lt_or_gt_of_ne hji with hlt | hgt
    · exact hp j i hj hi hlt k hk c.symm
    · exact hp i j hi hj hgt k c.symm hk
  have hmem : ∀ x ∈ L.set i { L.getD i noEnt with sA := sA', scap := scap', sent := sent' }, x = { L.getD i noEnt with sA := sA', scap := scap', sent := sent' } ∨ ∃ j, j < L.length ∧ j ≠ i ∧ x = L.getD j noEnt := by
    intro x hx
    obtain ⟨j, hj, rfl⟩ := List.getElem_of_mem hx
    have hj' : j < L.length := by simpa using hj
    rw [List.getElem_set]
    split
    · exact .inl rfl
    · rename_i e
      exact .inr ⟨j, hj', fun c => e c.symm, by simp [List.getElem?_eq_getElem hj']⟩
  refine ⟨?_, ?_, ?_, ?_, ?_, ?_, .inl h.fT, ?_, ?_⟩
  · rw [hlen, heap_set_other hT]
    exact (hg.block T hTl (fun c => (h.hS _ hm).1 c.symm)).trans h.blk
  · rw [hlen, hes]; exact hst.1
  · intro x hx
    rcases hmem x hx with rfl | ⟨j, hj, hji, rfl⟩
    · exact own_same hn fun k hk => heap_set_other (hnew k hk).2
    · exact own_same (hoth j hj hji) fun k hk => heap_set_other (hold _ (getD_mem hj) k hk)
  · rw [hlen]; exact h.hA
  · intro x hx
    rw [hlen]
    rcases hmem x hx with rfl | ⟨j, hj, hji, rfl⟩
    · exact ⟨fun c => (hnew T c).1 rfl, fun k hk c => (hnew k hk).2 (by injection c with c; exact c.symm)⟩
    · exact h.hS _ (getD_mem hj)
  · rw [List.pairwise_iff_getElem]
    intro a b ha hb hab k
    have ha' : a < L.length := by simpa using ha
    have hb' : b < L.length := by simpa using hb
    have hp := List.pairwise_iff_getElem.1 h.sep
    have ei : L.getD i noEnt = L[i] := by simp [List.getElem?_eq_getElem hi]
    rw [List.getElem_set, List.getElem_set]
    split
    · rename_i e1
      subst e1
      rw [if_neg (by omega)]
      intro hk c
      rcases hat k hk with c2 | c2
      · rw [ei] at c2; exact hp _ _ ha' hb' hab k c2 c
      · have := ((h.sent _ (List.getElem_mem hb')).lt k c).2; omega
    · split
      · rename_i e1 e2
        subst e2
        intro hk c
        rcases hat k c with c2 | c2
        · rw [ei] at c2; exact hp _ _ ha' hb' hab k hk c2
        · have := ((h.sent _ (List.getElem_mem ha')).lt k hk).2; omega
      · exact hp _ _ ha' hb' hab k
  · rw [hlen]; exact fun k hk => .inl (h.fA k hk)
  · intro x hx k hk
    rcases hmem x hx with rfl | ⟨j, hj, hji, rfl⟩
    · rcases hat k hk with c | c
      · exact .inl (h.fS _ hm k c)
      · exact .inr c
    · exact .inl (h.fS _ (getD_mem hj) k hk)
/-- An entry is added. -/
theorem TrAt.push {w w1 : World} {F : Nat → Prop} {T : Nat} {n : NatC} {now next : Int} {A A' : Option Addr} {cap cap' : Nat} {L : List Ent} (h : TrAt w F T n now next A cap L) (e : Ent) (hse : e.sA = none) (hsc : e.scap = 0) (hs0 : e.sent = [])
    (hg : w.grownBy w1 (Value.slice A L.length cap).ownBlock) (hn : w1.ownsRow 0 97 11 (.slice A' (L.length + 1) cap') (L.length + 1) (entsC L ++ entC e)) (hat : ∀ k, (Value.slice A' (L.length + 1) cap').ownBlock = some k → (Value.slice A L.length cap).ownBlock = some k ∨ w.heap.size ≤ k) :
    TrAt (w1.setCell ⟨T, 10, none⟩ (.slice A' (L.length + 1) cap')) (Plus F w) T n now next A' cap' (L ++ [e]) := by
  have hlen : (L ++ [e]).length = L.length + 1 := by simp
  have hTl := tr_lt h.blk
  have hblk1 : w1.heap[T]? = some (trObj n now next (.slice A L.length cap)) := (hg.block T hTl (fun c => h.hA c.symm)).trans h.blk
  have hnew : ∀ k, (Value.slice A' (L.length + 1) cap').ownBlock = some k → k ≠ T := by
    intro k hk
    rcases hat k hk with c | c
    · exact fun e => h.hA (by rw [c, e])
    · omega
  have he0 : svE e = .slice none 0 0 := by unfold svE; rw [hse, hsc, hs0]; rfl
  have hmem : ∀ x ∈ L ++ [e], x ∈ L ∨ x = e := fun x hx => by simpa using hx
  have hsent1 : ∀ x ∈ L, w1.ownsRow 0 42 4 (svE x) x.sent.length (spotsC x.sent) := fun x hx => own_same (h.sent x hx) fun k hk => hg.block k ((h.sent x hx).lt k hk).2 (fun c => (h.hS x hx).2 k hk c.symm)
  refine ⟨?_, ?_, ?_, ?_, ?_, ?_, .inl h.fT, ?_, ?_⟩
  · rw [hlen]; exact tr_set10 hblk1 _
  · rw [hlen]
    have : entsC (L ++ [e]) = entsC L ++ entC e := by simp [entsC]
    rw [this]
    exact own_same hn fun k hk => heap_set_other (hnew k hk)
  · intro x hx
    rcases hmem x hx with hx | rfl
    · exact own_same (hsent1 x hx) fun k hk => heap_set_other (fun c => (h.hS x hx).1 (by rw [hk, c]))
    · rw [he0, hs0]; exact World.ownsRow_nil _ _ _ _
  · rw [hlen]; exact fun c => hnew T c rfl
  · intro x hx
    rw [hlen]
    rcases hmem x hx with hx | rfl
    · refine ⟨(h.hS x hx).1, fun k hk c => ?_⟩
      rcases hat k c with c2 | c2
      · exact (h.hS x hx).2 k hk c2
      · have := ((h.sent x hx).lt k hk).2; omega
    · rw [he0]; exact ⟨by simp [Value.ownBlock], fun k hk => by simp [Value.ownBlock] at hk⟩
  · rw [List.pairwise_append]
    refine ⟨h.sep, List.pairwise_singleton _ _, fun x _ y hy k _ => ?_⟩
    rw [List.mem_singleton.1 hy, he0]
    simp [Value.ownBlock]
  · rw [hlen]
    intro k hk
    rcases hat k hk with c | c
    · exact .inl (h.fA k c)
    · exact .inr c
  · intro x hx k hk
    rcases hmem x hx with hx | rfl
    · exact .inl (h.fS x hx k hk)
    · rw [he0] at hk; simp [Value.ownBlock] at hk
end Go.Proofs.YtphjgjcbolmdiaaGreatDoor
