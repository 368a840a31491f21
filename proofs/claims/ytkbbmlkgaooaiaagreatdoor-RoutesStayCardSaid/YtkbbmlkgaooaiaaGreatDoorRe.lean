/- What the stream draws: addresses. -/
import Derived.Test.YtkbbmlkgaooaiaaGreatDoorReA
import Derived.Test.YtkbbmlkgaooaiaaGreatDoorAdB
namespace Go.Proofs.YtkbbmlkgaooaiaaGreatDoor
open Go.RowKit Go.Hw

/-- A right address. -/
def AddrFine (six : Bool) (hi lo : Int) : Prop := (0 ≤ hi ∧ hi ≤ 18446744073709551615) ∧ (0 ≤ lo ∧ lo ≤ 18446744073709551615) ∧ (six = false → hi = 0 ∧ lo ≤ 4294967295)
theorem AddrFine.code {six : Bool} {hi lo : Int} (h : AddrFine six hi lo) : addrCode six hi lo = 0 := by
  unfold AddrFine at h
  unfold addrCode
  rw [if_neg]
  rintro ⟨h1, h2⟩
  have := h.2.2 h1
  omega
theorem fine_six {hi lo : Int} (h : 0 ≤ hi ∧ hi ≤ 18446744073709551615) (k : 0 ≤ lo ∧ lo ≤ 18446744073709551615) : AddrFine true hi lo := ⟨h, k, fun e => by cases e⟩
theorem fine_four {lo : Int} (h : 0 ≤ lo) (k : lo ≤ 4294967295) : AddrFine false 0 lo := ⟨by omega, by omega, fun _ => ⟨rfl, k⟩⟩
theorem fine_list (k : Nat) : AddrFine false 0 (([0, 1, 4294967295, 2130706433, 3232235521] : List Int).getD k 0) := by
  rcases k with _ | _ | _ | _ | _ | k
  · exact fine_four (by decide) (by decide)
  · exact fine_four (by decide) (by decide)
  · exact fine_four (by decide) (by decide)
  · exact fine_four (by decide) (by decide)
  · exact fine_four (by decide) (by decide)
  · exact fine_four (by simp) (by simp)
def AddrOut (w : World) (b : Nat) (A : Option Addr) (cap : Nat) (l : List Int) (at_ m : Int) (e : Ending) (w' : World) : Prop :=
  ∃ six hi lo, e = .returned (.agg #[.bool six, .int .u64 hi, .int .u64 lo]) ∧ AddrFine six hi lo ∧ StrTo w w' b A cap l at_ m
theorem u64_at {w w' : World} {g : Nat} {vs : List Int} {T : TypeId} {row : Option Nat} (hg : w.heap[g]? = some (.cells (vs.map (Value.int .u64)).toArray T (0, 0))) (hgr : w.grownBy w' row) (hne : some g ≠ row) {k : Nat} (hk : k < vs.length) : w'.cell? ⟨g, k, none⟩ = some (.int .u64 (vs.getD k 0)) := by
  have hb : w'.heap[g]? = w.heap[g]? := hgr.block g (Array.getElem?_eq_some_iff.1 hg).1 hne
  rw [World.cell?_of_block (w := w) hb]
  simp [World.cell?, hg, List.getElem?_eq_getElem hk]
theorem u64_nonneg {vs : List Int} (h : ∀ v ∈ vs, 0 ≤ v) (k : Nat) : 0 ≤ vs.getD k 0 := by
  by_cases hk : k < vs.length
  · rw [List.getD_eq_getElem?_getD, List.getElem?_eq_getElem hk]; exact h _ (List.getElem_mem hk)
  · rw [List.getD_eq_getElem?_getD, List.getElem?_eq_none (by omega)]; simp

/-- The drawn address is laid into the result. -/
theorem addr_fin {w W W2 : World} {b : Nat} {A : Option Addr} {cap : Nat} {l : List Int} {x : Int} {T : TypeId} {a0 a1 a2 : Value} {v0 v1 v2 : Value} (hb : b < w.heap.size) (hz : W.heap[w.heap.size]? = some (.cells #[a0, a1, a2] T (0, 0)))
    (hS : Str W b A cap l x) (hg : w.grownBy W (some b)) (h : ((W.setCell ⟨w.heap.size, 0, none⟩ v0).setCell ⟨w.heap.size, 1, none⟩ v1).setCell ⟨w.heap.size, 2, none⟩ v2 = W2) :
    W2.heap[w.heap.size]? = some (.cells #[v0, v1, v2] T (0, 0)) ∧ Str W2 b A cap l x ∧ w.grownBy W2 (some b) := by
  have hk : ∀ k, k ≠ w.heap.size → W2.heap[k]? = W.heap[k]? := fun k hk => by
    rw [← h, Below.heap_setCell _ _ _ _ hk, Below.heap_setCell _ _ _ _ hk, Below.heap_setCell _ _ _ _ hk]
  refine ⟨?_, str_other hS hb hk, ⟨?_, ?_, ?_, ?_, fun k hk' hne => (hk k (by omega)).trans (hg.block k hk' hne)⟩⟩
  · have := heap_set (heap_set (heap_set hz 0 v0) 1 v1) 2 v2
    rw [h] at this
    simpa using this
  · rw [← h]; exact hg.os
  · rw [← h]; exact hg.tape
  · rw [← h]; exact hg.output
  · rw [← h]; have := hg.size; simpa using this
theorem five_at {a b c d e k : Int} (ha : 0 ≤ a ∧ a ≤ 18446744073709551615) (hb : 0 ≤ b ∧ b ≤ 18446744073709551615) (hc : 0 ≤ c ∧ c ≤ 18446744073709551615) (hd : 0 ≤ d ∧ d ≤ 18446744073709551615) (he : 0 ≤ e ∧ e ≤ 18446744073709551615) (h0 : 0 ≤ k) (h1 : k < 5) : ∃ x, ((#[Value.int .u64 a, .int .u64 b, .int .u64 c, .int .u64 d, .int .u64 e] : Array Value)[k.toNat]? = some (.int .u64 x) ∧ ∀ h, ([Value.int .u64 a, .int .u64 b, .int .u64 c, .int .u64 d, .int .u64 e] : List Value)[k.toNat]'h = .int .u64 x) ∧ (0 ≤ x ∧ x ≤ 18446744073709551615) := by
  have : k.toNat = 0 ∨ k.toNat = 1 ∨ k.toNat = 2 ∨ k.toNat = 3 ∨ k.toNat = 4 := by omega
  generalize k.toNat = j at *
  rcases this with rfl | rfl | rfl | rfl | rfl
  · exact ⟨a, ⟨rfl, fun _ => rfl⟩, ha⟩
  · exact ⟨b, ⟨rfl, fun _ => rfl⟩, hb⟩
  · exact ⟨c, ⟨rfl, fun _ => rfl⟩, hc⟩
  · exact ⟨d, ⟨rfl, fun _ => rfl⟩, hd⟩
  · exact ⟨e, ⟨rfl, fun _ => rfl⟩, he⟩
end Go.Proofs.YtkbbmlkgaooaiaaGreatDoor
