/- Addresses in memory. -/
import Derived.Test.YtcmfkheohhfpiaaGreatDoorRwS
import Derived.Test.YtcmfkheohhfpiaaGreatDoorRwB
import Derived.Test.YtcmfkheohhfpiaaGreatDoorRgS
namespace Go.Proofs.YtcmfkheohhfpiaaGreatDoor
open Go.RowKit Go.Hw

/-- An address. -/
structure Ad where
  six : Bool
  hi : Int
  lo : Int
def noAd : Ad := ⟨false, 0, 0⟩

def adC (e : Ad) : List Value := [.bool e.six, .int .u64 e.hi, .int .u64 e.lo]
theorem adC_len (e : Ad) : (adC e).length = 3 := rfl
abbrev adAt (w : World) (A : Option Addr) (L : List Ad) : Prop := RwAt adC 3 noAd w A L
abbrev adOwn (w : World) (base : Nat) (v : Value) (L : List Ad) : Prop := w.ownsRow base 30 3 v L.length (rwC adC L)
theorem ad_cells {w : World} {g o : Nat} {e : Ad} (h : RwCells w g o (adC e)) : w.cell? ⟨g, o, none⟩ = some (.bool e.six) ∧ w.cell? ⟨g, o + 1, none⟩ = some (.int .u64 e.hi) ∧ w.cell? ⟨g, o + 2, none⟩ = some (.int .u64 e.lo) := ⟨h 0 _ rfl, h 1 _ rfl, h 2 _ rfl⟩

/-- What is asked of a closure over these structs. -/
def adPred (g : Nat) (lb : Array Value) (p : Ad → Bool) (L : List Ad) (w : World) : Prop :=
  ∀ (W : World) (e : Ad), e ∈ L → Below w.heap.size w W → Calls Tryz.prog g (#[.agg #[.bool e.six, .int .u64 e.hi, .int .u64 e.lo]] ++ lb) W fun en w' => en = .returned (.bool (p e)) ∧ Below W.heap.size W w'

theorem ad_zero (w : World) : (zeroValue 30).run Tryz.prog w = .ok (.agg #[.bool false, .int .u64 0, .int .u64 0]) w := by kernel_rfl
def adZ : Array Value := #[.bool false, .int .u64 0, .int .u64 0]
theorem ad_clear (w : World) (ty : TypeId) (b o n c : Nat) (hn : 0 < n) (hc : ∀ j, j < n * 3 → (w.cell? ⟨b, o + j, none⟩).isSome = true) (hf : ∀ j, j < n * 3 → w.frozen? ⟨b, o + j, none⟩ = false) :
    (Builtin.clear_ #[87] ty #[.slice (some ⟨b, o, none⟩) n c]).run Tryz.prog w = .ok (.tuple #[]) (w.setCells b o (Builtin.zeroCells adZ n).toList) := by
  have hl : (Builtin.zeroCells adZ n).toList.length = n * 3 := by
    simp [Builtin.zeroCells, adZ]
  have h1 : ∀ v ∈ (Builtin.zeroCells adZ n).toList, v.oneCell' = true := by
    intro v hv
    simp only [Builtin.zeroCells, Array.toList_map, List.mem_map] at hv
    obtain ⟨i, _, rfl⟩ := hv
    have hi : i % adZ.size < 3 := Nat.mod_lt _ (by decide)
    generalize i % adZ.size = k at hi
    have : k = 0 ∨ k = 1 ∨ k = 2 := by omega
    rcases this with rfl | rfl | rfl <;> rfl
  have hst := run_storeCells_cells (P := Tryz.prog) b o (Builtin.zeroCells adZ n).toList 0 w (by rw [hl]; simpa using hc) (by rw [hl]; simpa using hf) h1
  simp only [Nat.add_zero] at hst
  have hz := ad_zero w
  obtain ⟨m, rfl⟩ : ∃ m, n = m + 1 := ⟨n - 1, by omega⟩
  have hcells : (Value.agg #[.bool false, .int .u64 0, .int .u64 0]).cells = adZ := rfl
  simp [Builtin.clear_, run_underlying Tryz.underlying87, hz, hcells, hst]

theorem ad_info : (Tryz.prog.info? 30).map (fun i => (i.zero, i.size, i.bytes)) = some (some (.agg #[.bool false, .int .u64 0, .int .u64 0]), 3, 24) := by kernel_rfl
theorem adC_one (e : Ad) : ∀ u ∈ adC e, u.oneCell' = true := by
  intro u hu
  simp only [adC, List.mem_cons, List.not_mem_nil, or_false] at hu
  rcases hu with rfl | rfl | rfl <;> rfl
theorem ads_one (L : List Ad) : ∀ u ∈ rwC adC L, u.oneCell' = true := by
  intro u hu
  obtain ⟨x, _, hx⟩ := List.mem_flatMap.1 hu
  exact adC_one x u hx
/-- Cells of a row, one after the other. -/
theorem ad_flat {w : World} {b off : Nat} {L : List Ad} (h : adAt w (some ⟨b, off, none⟩) L) (j : Nat) (u : Value) (hu : (rwC adC L)[j]? = some u) : w.cell? ⟨b, off + j, none⟩ = some u := by
  have hj := (List.getElem?_eq_some_iff.1 hu).1
  rw [rwC_length adC_len] at hj
  have hi : j / 3 < L.length := by omega
  obtain ⟨g, off', e, _, hc⟩ := h (j / 3) hi
  injection e with e
  simp only [Addr.mk.injEq, and_true] at e
  obtain ⟨rfl, rfl⟩ := e
  have hm : j = j / 3 * 3 + j % 3 := by omega
  rw [hm, rwC_at (d := noAd) adC_len L _ _ hi (by omega)] at hu
  have := hc (j % 3) u hu
  rwa [Nat.add_assoc, ← hm] at this

end Go.Proofs.YtcmfkheohhfpiaaGreatDoor
