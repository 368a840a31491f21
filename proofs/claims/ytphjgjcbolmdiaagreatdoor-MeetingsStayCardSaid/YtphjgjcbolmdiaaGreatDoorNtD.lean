/- Translators: entries in memory; slices.IndexFunc, ContainsFunc over entries, whatever the closure. -/
import Derived.Test.YtphjgjcbolmdiaaGreatDoorNtC
import Derived.Lib.SliceRun
namespace Go.Proofs.YtphjgjcbolmdiaaGreatDoor
open Go.RowKit Go.Hw

/-- The first place at which p holds, or -1. -/
def idxP {α : Type} (p : α → Bool) (xs : List α) : Int := match xs.findIdx? p with
  | some k => k
  | none => -1
theorem idxP_at {α : Type} {p : α → Bool} {xs : List α} {d : α} {k : Nat} (hk : k < xs.length) (h : ∀ j, j < k → p (xs.getD j d) = false) (ht : p (xs.getD k d) = true) : idxP p xs = k := by
  have : xs.findIdx? p = some k := by
    rw [List.findIdx?_eq_some_iff_getElem]
    refine ⟨hk, by simpa [List.getElem?_eq_getElem hk] using ht, fun j hj => ?_⟩
    have := h j hj
    simpa [List.getElem?_eq_getElem (Nat.lt_trans hj hk)] using this
  unfold idxP
  rw [this]
theorem idxP_none {α : Type} {p : α → Bool} {xs : List α} {d : α} (h : ∀ j, j < xs.length → p (xs.getD j d) = false) : idxP p xs = -1 := by
  have : xs.findIdx? p = none := by
    rw [List.findIdx?_eq_none_iff]
    intro x hx
    obtain ⟨j, hj, rfl⟩ := List.getElem_of_mem hx
    have := h j hj
    simpa [List.getElem?_eq_getElem hj] using this
  unfold idxP
  rw [this]
theorem idxP_any {α : Type} (p : α → Bool) (xs : List α) : (xs.any p = true ∧ 0 ≤ idxP p xs) ∨ (xs.any p = false ∧ idxP p xs = -1) := by
  unfold idxP
  cases h : xs.findIdx? p with
  | none =>
    right
    refine ⟨?_, rfl⟩
    rw [List.findIdx?_eq_none_iff] at h
    rw [List.any_eq_false]
    intro x hx
    simpa using h x hx
  | some k =>
    left
    refine ⟨?_, Int.natCast_nonneg _⟩
    obtain ⟨hk, hp, _⟩ := List.findIdx?_eq_some_iff_getElem.1 h
    rw [List.any_eq_true]
    exact ⟨_, List.getElem_mem hk, hp⟩

/-- An entry of a translator; sA, scap: where the spots lie to which packets were sent. -/
structure Ent where
  inner : Spot
  port : Int
  dep : Spot
  last : Int
  sA : Option Addr
  scap : Nat
  sent : List Spot
def noEnt : Ent := ⟨noSpot, 0, noSpot, 0, none, 0, []⟩
def entC (e : Ent) : List Value := [.bool e.inner.six, .int .u64 e.inner.hi, .int .u64 e.inner.lo, .int .i64 e.inner.port, .int .i64 e.port, .bool e.dep.six, .int .u64 e.dep.hi, .int .u64 e.dep.lo, .int .i64 e.dep.port, .int .i64 e.last, .slice e.sA e.sent.length e.scap]
def entsC (L : List Ent) : List Value := L.flatMap entC
theorem entsC_length (L : List Ent) : (entsC L).length = L.length * 11 := by
  induction L with
  | nil => rfl
  | cons x L ih => simp only [entsC, List.flatMap_cons, List.length_append, List.length_cons] at ih ⊢; rw [ih]; simp [entC]; omega
/-- Cell j of entry i. -/
theorem entsC_at : ∀ (L : List Ent) (i j : Nat), i < L.length → j < 11 → (entsC L)[i * 11 + j]? = (entC (L.getD i noEnt))[j]?
  | [], i, _, h, _ => by simp at h
  | x :: L, 0, j, _, hj => by
    have e : entsC (x :: L) = entC x ++ entsC L := rfl
    rw [e, List.getElem?_append_left (by simp [entC]; omega)]
    simp
  | x :: L, i + 1, j, h, hj => by
    have e : entsC (x :: L) = entC x ++ entsC L := rfl
    have := entsC_at L i j (by simpa using h) hj
    rw [e, List.getElem?_append_right (by simp [entC]; omega)]
    have hl : (entC x).length = 11 := rfl
    rw [hl, show (i + 1) * 11 + j - 11 = i * 11 + j by omega, this]
    simp

/-- The eleven cells of an entry lie at g, o. -/
structure EntAt (w : World) (g o : Nat) (e : Ent) : Prop where
  c0 : w.cell? ⟨g, o, none⟩ = some (.bool e.inner.six)
  c1 : w.cell? ⟨g, o + 1, none⟩ = some (.int .u64 e.inner.hi)
  c2 : w.cell? ⟨g, o + 2, none⟩ = some (.int .u64 e.inner.lo)
  c3 : w.cell? ⟨g, o + 3, none⟩ = some (.int .i64 e.inner.port)
  c4 : w.cell? ⟨g, o + 4, none⟩ = some (.int .i64 e.port)
  c5 : w.cell? ⟨g, o + 5, none⟩ = some (.bool e.dep.six)
  c6 : w.cell? ⟨g, o + 6, none⟩ = some (.int .u64 e.dep.hi)
  c7 : w.cell? ⟨g, o + 7, none⟩ = some (.int .u64 e.dep.lo)
  c8 : w.cell? ⟨g, o + 8, none⟩ = some (.int .i64 e.dep.port)
  c9 : w.cell? ⟨g, o + 9, none⟩ = some (.int .i64 e.last)
  c10 : w.cell? ⟨g, o + 10, none⟩ = some (.slice e.sA e.sent.length e.scap)
theorem EntAt.keep {w w' : World} {g o : Nat} {e : Ent} (h : EntAt w g o e) (hk : ∀ p : Addr, p.block = g → w'.cell? p = w.cell? p) : EntAt w' g o e :=
  ⟨(hk _ rfl).trans h.c0, (hk _ rfl).trans h.c1, (hk _ rfl).trans h.c2, (hk _ rfl).trans h.c3, (hk _ rfl).trans h.c4, (hk _ rfl).trans h.c5, (hk _ rfl).trans h.c6, (hk _ rfl).trans h.c7, (hk _ rfl).trans h.c8, (hk _ rfl).trans h.c9, (hk _ rfl).trans h.c10⟩
def EntsAt (w : World) (A : Option Addr) (L : List Ent) : Prop := ∀ i, i < L.length → ∃ g off, A = some ⟨g, off, none⟩ ∧ g < w.heap.size ∧ EntAt w g (off + i * 11) (L.getD i noEnt)
theorem EntsAt.below {w w' : World} {A : Option Addr} {L : List Ent} (h : EntsAt w A L) (hb : Below w.heap.size w w') : EntsAt w' A L := fun i hi =>
  let ⟨g, off, h1, h2, h3⟩ := h i hi
  ⟨g, off, h1, Nat.lt_of_lt_of_le h2 hb.size, h3.keep fun p hp => hb.cell (by rw [hp]; exact h2)⟩
/-- A row of entries that is owned. -/
theorem ents_at {w : World} {base : Nat} {T : TypeId} {v : Value} {L : List Ent} (h : w.ownsRow base T 11 v L.length (entsC L)) : ∃ A cap, v = .slice A L.length cap ∧ EntsAt w A L := by
  have hlt := h.lt
  rcases h.2 with ⟨h1, h2⟩ | ⟨g, cap, cur, h1, _⟩
  · refine ⟨none, 0, by rw [h1, h2], fun i hi => by omega⟩
  · refine ⟨some ⟨g, 0, none⟩, cap, h1, fun i hi => ⟨g, 0, rfl, (hlt g (by rw [h1]; rfl)).2, ?_⟩⟩
    have hc := fun j u hu => h.cells (g := g) (by rw [h1]; rfl) j u hu
    have hadd : ∀ j, (⟨g, 0, none⟩ : Addr).add j = ⟨g, 0 + j, none⟩ := fun j => by unfold Addr.add; split <;> simp_all
    have hcc : ∀ j u, j < 11 → (entC (L.getD i noEnt))[j]? = some u → w.cell? ⟨g, 0 + i * 11 + j, none⟩ = some u := by
      intro j u hj hu
      have := hc (i * 11 + j) u ((entsC_at L i j hi hj).trans hu)
      rwa [hadd, ← Nat.add_assoc] at this
    exact ⟨hcc 0 _ (by omega) rfl, hcc 1 _ (by omega) rfl, hcc 2 _ (by omega) rfl, hcc 3 _ (by omega) rfl, hcc 4 _ (by omega) rfl, hcc 5 _ (by omega) rfl, hcc 6 _ (by omega) rfl, hcc 7 _ (by omega) rfl, hcc 8 _ (by omega) rfl, hcc 9 _ (by omega) rfl, hcc 10 _ (by omega) rfl⟩

/-- What is asked of a closure over entries. -/
def PredE (g : Nat) (lb : Array Value) (p : Ent → Bool) (L : List Ent) (w : World) : Prop :=
  ∀ (W : World) (e : Ent), e ∈ L → Below w.heap.size w W → Calls Tryz.prog g (#[.agg #[.bool e.inner.six, .int .u64 e.inner.hi, .int .u64 e.inner.lo, .int .i64 e.inner.port, .int .i64 e.port, .bool e.dep.six, .int .u64 e.dep.hi, .int .u64 e.dep.lo, .int .i64 e.dep.port, .int .i64 e.last, .slice e.sA e.sent.length e.scap]] ++ lb) W fun en w' => en = .returned (.bool (p e)) ∧ Below W.heap.size W w'

set_option maxRecDepth 100000 in
set_option maxHeartbeats 1000000 in
theorem idxEnt_any (A : Option Addr) (cap : Nat) (L : List Ent) (g : Nat) (lb : Array Value) (p : Ent → Bool) (w : World) (eg : ∀ args w, (callFunc g args).run Tryz.prog w = .ok (.enter g args) w)
    (h : EntsAt w A L) (hl : L.length ≤ 1000000) (hp : PredE g lb p L w) :
    Calls Tryz.prog 62 #[.slice A L.length cap, .func (.func g) #[] lb] w fun e w' => e = .returned (.int .i64 (idxP p L)) ∧ Below w.heap.size w w' := by
  go_enter Tryz.func62, Tryz.ntmps62
  go_wp2_with fail
  go_loopw [8] (fun v wr => ∃ k : Nat, k ≤ L.length ∧ v = .int .i64 k ∧ (∀ j, j < k → p (L.getD j noEnt) = false) ∧ Below w.heap.size w wr) (fun v _ => L.length - (intOf v).toNat)
  case atStart => exact ⟨0, Nat.zero_le _, rfl, fun j hj => by omega, Below.refl _ _⟩
  case round =>
    obtain ⟨k, hk, rfl, hf, hb⟩ := hrel
    have hlr := h.below hb
    by_cases hlt : k < L.length
    · obtain ⟨g5, off, rfl, hgB, ⟨c0, c1, c2, c3, c4, c5, c6, c7, c8, c9, c10⟩⟩ := hlr k hlt
      have HCALL := hp wr (L.getD k noEnt) (by rw [List.getD_eq_getElem?_getD, List.getElem?_eq_getElem hlt]; exact List.getElem_mem hlt) hb
      generalize hx : L.getD k noEnt = x at *
      have HF := Lib.hid hf
      have HX := Lib.hid hx
      have HB := Lib.hid hb
      clear hf hx hp hb hlr h
      have hd : decide ((k : Int) < (L.length : Int)) = true := by simp; omega
      cases hq : p x
      · rw [hq] at HCALL
        go_wp2_with (go_at_fn g; refine HCALL.mono ?_; rintro e w1 ⟨rfl, hb1⟩)
        go_roundw
        case rel => exact ⟨k + 1, by omega, by go_num, fun j hj => (by
          by_cases e : j = k
          · rw [e, HX.out]; exact hq
          · exact HF.out j (by omega)), HB.out.trans (hb1.mono HB.out.size)⟩
        case measure => simp [intOf]; omega
      · rw [hq] at HCALL
        go_wp2_with (go_at_fn g; refine HCALL.mono ?_; rintro e w1 ⟨rfl, hb1⟩)
        go_ret
        exact ⟨ret_eq (idxP_at hlt HF.out (by rw [HX.out]; exact hq)).symm, HB.out.trans (hb1.mono HB.out.size)⟩
    · have : k = L.length := by omega
      subst this
      have HF := Lib.hid hf
      clear hf
      go_wp2_with fail
      go_ret
      exact ⟨ret_eq (idxP_none HF.out).symm, hb⟩

set_option maxRecDepth 100000 in
set_option maxHeartbeats 400000 in
theorem anyEnt_any (A : Option Addr) (cap : Nat) (L : List Ent) (g : Nat) (lb : Array Value) (p : Ent → Bool) (w : World) (eg : ∀ args w, (callFunc g args).run Tryz.prog w = .ok (.enter g args) w)
    (h : EntsAt w A L) (hl : L.length ≤ 1000000) (hp : PredE g lb p L w) :
    Calls Tryz.prog 66 #[.slice A L.length cap, .func (.func g) #[] lb] w fun e w' => e = .returned (.bool (L.any p)) ∧ Below w.heap.size w w' := by
  have hcall := idxEnt_any A cap L g lb p w eg h hl hp
  rcases idxP_any p L with ⟨h1, h2⟩ | ⟨h1, h2⟩
  · rw [h1]
    generalize idxP p L = r at *
    go_enter Tryz.func66, Tryz.ntmps66
    go_wp2_with fail
    refine hcall.mono ?_
    rintro e w1 ⟨rfl, hb⟩
    go_wp2_with fail
    go_ret
    exact ⟨rfl, hb⟩
  · rw [h1]
    rw [h2] at hcall
    go_enter Tryz.func66, Tryz.ntmps66
    go_wp2_with fail
    refine hcall.mono ?_
    rintro e w1 ⟨rfl, hb⟩
    go_wp2_with fail
    go_ret
    exact ⟨rfl, hb⟩
end Go.Proofs.YtphjgjcbolmdiaaGreatDoor
