/- TrailsAreShortest's closure: is this the link between the relays i - 1 and i of the trail? -/
import Derived.Test.YtgmejjemepffkaaGreatDoorThru2
import Derived.Lib.MinMaxS
namespace Go.Proofs.YtgmejjemepffkaaGreatDoor
open Go.RowKit Go.Hw

/-- Is this the link between p and q? -/
def lnkP (p q : ByteArray) (l : Lk) : Bool := (l.a.toList == (Lib.minS p q).toList) && (l.b.toList == (Lib.maxS p q).toList)

set_option maxRecDepth 100000 in
set_option maxHeartbeats 1000000 in
theorem tclos_any (bt bi g off n cap i : Nat) (p q : ByteArray) (l : Lk) (w : World) (hi : i + 1 < n) (hn : n ≤ 2000)
    (ct : w.cell? ⟨bt, 0, none⟩ = some (.slice (some ⟨g, off, none⟩) n cap)) (ci : w.cell? ⟨bi, 0, none⟩ = some (.int .i64 ((i : Int) + 1)))
    (cp : w.cell? ⟨g, off + i, none⟩ = some (.string p)) (cq : w.cell? ⟨g, off + (i + 1), none⟩ = some (.string q)) (hbt : bt < w.heap.size) (hbi : bi < w.heap.size) (hg : g < w.heap.size) :
    Calls Tryz.prog 10 #[.agg #[.string l.a, .string l.b, .int .i64 l.m], .pointer (some ⟨bt, 0, none⟩), .pointer (some ⟨bi, 0, none⟩)] w fun e w' => e = .returned (.bool (lnkP p q l)) ∧ Below w.heap.size w w' := by
  have hmn := fun (w : World) (ts : Array TypeId) (t : TypeId) => Lib.run_min_strs (P := Tryz.prog) w ts t p q
  have hmx := fun (w : World) (ts : Array TypeId) (t : TypeId) => Lib.run_max_strs (P := Tryz.prog) w ts t p q
  have hB : ∀ nq, Below w.heap.size w ((w.alloc (.cells #[.string l.a, .string l.b, .int .i64 l.m] 37)).drewN nq) := fun nq => below_drewN' ((Below.refl _ _).alloc (Nat.le_refl _) _) nq
  have HB := Lib.hid hB
  clear hB
  cases h1 : l.a.toList == (Lib.minS p q).toList
  · have hfin : lnkP p q l = false := by unfold lnkP; rw [h1]; rfl
    have HF := Lib.hid hfin
    clear hfin
    go_enter Tryz.func10, Tryz.ntmps10
    go_wp2_with fail
    go_quiet (fail)
    go_wp2_with fail
    go_ret
    exact ⟨ret_bool HF.out.symm, HB.out _⟩
  · cases h2 : l.b.toList == (Lib.maxS p q).toList
    · have hfin : lnkP p q l = false := by unfold lnkP; rw [h1, h2]; rfl
      have HF := Lib.hid hfin
      clear hfin
      go_enter Tryz.func10, Tryz.ntmps10
      go_wp2_with fail
      go_quiet (fail)
      go_wp2_with fail
      go_ret
      exact ⟨ret_bool HF.out.symm, HB.out _⟩
    · have hfin : lnkP p q l = true := by unfold lnkP; rw [h1, h2]; rfl
      have HF := Lib.hid hfin
      clear hfin
      go_enter Tryz.func10, Tryz.ntmps10
      go_wp2_with fail
      go_quiet (fail)
      go_wp2_with fail
      go_ret
      exact ⟨ret_bool HF.out.symm, HB.out _⟩

/-- What the closure reads: trail t in the block bt, i in the block bi. -/
structure Cap (w : World) (B bt bi : Nat) (p q : ByteArray) : Prop where
  ex : ∃ g off n cap i : Nat, i + 1 < n ∧ n ≤ 2000 ∧ w.cell? ⟨bt, 0, none⟩ = some (.slice (some ⟨g, off, none⟩) n cap) ∧ w.cell? ⟨bi, 0, none⟩ = some (.int .i64 ((i : Int) + 1)) ∧
    w.cell? ⟨g, off + i, none⟩ = some (.string p) ∧ w.cell? ⟨g, off + (i + 1), none⟩ = some (.string q) ∧ g < B
  bt : bt < B
  bi : bi < B
  low : B ≤ w.heap.size
theorem Cap.below {w w' : World} {B bt bi : Nat} {p q : ByteArray} (h : Cap w B bt bi p q) (hb : Below B w w') : Cap w' B bt bi p q where
  ex := by
    obtain ⟨g, off, n, cap, i, h1, h2, h3, h4, h5, h6, h7⟩ := h.ex
    exact ⟨g, off, n, cap, i, h1, h2, (hb.cell (p := ⟨bt, 0, none⟩) h.bt).trans h3, (hb.cell (p := ⟨bi, 0, none⟩) h.bi).trans h4, (hb.cell (p := ⟨g, _, none⟩) h7).trans h5, (hb.cell (p := ⟨g, _, none⟩) h7).trans h6, h7⟩
  bt := h.bt
  bi := h.bi
  low := Nat.le_trans h.low hb.size
theorem Cap.call {w : World} {B bt bi : Nat} {p q : ByteArray} (h : Cap w B bt bi p q) (l : Lk) :
    Calls Tryz.prog 10 #[.agg #[.string l.a, .string l.b, .int .i64 l.m], .pointer (some ⟨bt, 0, none⟩), .pointer (some ⟨bi, 0, none⟩)] w fun e w' => e = .returned (.bool (lnkP p q l)) ∧ Below B w w' := by
  obtain ⟨g, off, n, cap, i, h1, h2, h3, h4, h5, h6, h7⟩ := h.ex
  have hl := h.low
  exact (tclos_any bt bi g off n cap i p q l w h1 h2 h3 h4 h5 h6 (Nat.lt_of_lt_of_le h.bt hl) (Nat.lt_of_lt_of_le h.bi hl) (Nat.lt_of_lt_of_le h7 hl)).mono fun e w' ⟨he, hb⟩ => ⟨he, hb.mono hl⟩

/-- The first link between p and q. -/
def idxLnk (xs : List Lk) (p q : ByteArray) : Int := match xs.findIdx? (lnkP p q) with
  | some k => k
  | none => -1
theorem idxLnk_at {xs : List Lk} {p q : ByteArray} {k : Nat} (hk : k < xs.length) (h : ∀ j, j < k → lnkP p q (xs.getD j noLk) = false) (ht : lnkP p q (xs.getD k noLk) = true) : idxLnk xs p q = k := by
  have : xs.findIdx? (lnkP p q) = some k := by
    rw [List.findIdx?_eq_some_iff_getElem]
    refine ⟨hk, by simpa [List.getElem?_eq_getElem hk] using ht, fun j hj => ?_⟩
    have := h j hj
    simpa [List.getElem?_eq_getElem (Nat.lt_trans hj hk)] using this
  unfold idxLnk
  rw [this]
theorem idxLnk_none {xs : List Lk} {p q : ByteArray} (h : ∀ j, j < xs.length → lnkP p q (xs.getD j noLk) = false) : idxLnk xs p q = -1 := by
  have : xs.findIdx? (lnkP p q) = none := by
    rw [List.findIdx?_eq_none_iff]
    intro x hx
    obtain ⟨j, hj, rfl⟩ := List.getElem_of_mem hx
    have := h j hj
    simpa [List.getElem?_eq_getElem hj] using this
  unfold idxLnk
  rw [this]

set_option maxRecDepth 100000 in
set_option maxHeartbeats 1000000 in
theorem tidx_any (A : Option Addr) (cap : Nat) (xs : List Lk) (bt bi B : Nat) (p q : ByteArray) (w : World) (h : LksAt w B A xs) (hl : xs.length ≤ 500) (hc : Cap w B bt bi p q) :
    Calls Tryz.prog 9 #[.slice A xs.length cap, .func (.func 10) #[] #[.pointer (some ⟨bt, 0, none⟩), .pointer (some ⟨bi, 0, none⟩)]] w fun e w' => e = .returned (.int .i64 (idxLnk xs p q)) ∧ Below B w w' := by
  go_enter Tryz.func9, Tryz.ntmps9
  go_wp2_with fail
  go_loopw [8] (fun v wr => ∃ k : Nat, k ≤ xs.length ∧ v = .int .i64 k ∧ (∀ j, j < k → lnkP p q (xs.getD j noLk) = false) ∧ Below B w wr) (fun v _ => xs.length - (intOf v).toNat)
  case atStart => exact ⟨0, Nat.zero_le _, rfl, fun j hj => by omega, Below.refl _ _⟩
  case round =>
    obtain ⟨k, hk, rfl, hf, hb⟩ := hrel
    have hcr := hc.below hb
    have hlr := h.below hb
    by_cases hlt : k < xs.length
    · obtain ⟨g, off, rfl, hgB, c0, c1, c2⟩ := hlr k hlt
      have HCALL := hcr.call (xs.getD k noLk)
      generalize hx : xs.getD k noLk = x at *
      have HF := Lib.hid hf
      have HX := Lib.hid hx
      clear hf hx
      have hd : decide ((k : Int) < (xs.length : Int)) = true := by simp; omega
      go_wp2_with fail
      refine HCALL.mono ?_
      rintro e w1 ⟨rfl, hb1⟩
      cases hp : lnkP p q x
      · go_wp2_with fail
        go_roundw
        case rel => exact ⟨k + 1, by omega, by go_num, fun j hj => (by
          by_cases e : j = k
          · rw [e, HX.out]; exact hp
          · exact HF.out j (by omega)), hb.trans hb1⟩
        case measure => simp [intOf]; omega
      · go_wp2_with fail
        go_ret
        exact ⟨ret_eq (idxLnk_at hlt HF.out (by rw [HX.out]; exact hp)).symm, hb.trans hb1⟩
    · have : k = xs.length := by omega
      subst this
      have HF := Lib.hid hf
      clear hf
      go_wp2_with fail
      go_ret
      exact ⟨ret_eq (idxLnk_none HF.out).symm, hb⟩
end Go.Proofs.YtgmejjemepffkaaGreatDoor
