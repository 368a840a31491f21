/- A block of memory that is laid anew; what the stream draws: addresses. -/
import Derived.Test.YtedpjecbfcogcaaGreatDoorStr
import Derived.Test.YtedpjecbfcogcaaGreatDoorTok
import Derived.Test.YtedpjecbfcogcaaGreatDoorAdB
import Derived.Test.YtedpjecbfcogcaaGreatDoorLk
import Derived.OneCell
namespace Go.Proofs.YtedpjecbfcogcaaGreatDoor
open Go.RowKit Go.Hw

/-- Block R of W2 holds cs, and all else is as in W. -/
structure Re (W W2 : World) (R : Nat) (cs : Array Value) (T : TypeId) : Prop where
  blk : W2.heap[R]? = some (.cells cs T (0, 0))
  oth : ∀ k, k ≠ R → W2.heap[k]? = W.heap[k]?
  os : W2.os = W.os
  tape : W2.tape = W.tape
  output : W2.output = W.output
  size : W2.heap.size = W.heap.size
theorem grownB {w w1 : World} (h : Below w.heap.size w w1) (row : Option Nat) : w.grownBy w1 row := ⟨h.os, h.tape, h.output, h.size, fun k hk _ => h.block k hk⟩
theorem Re.refl {W : World} {R : Nat} {cs : Array Value} {T : TypeId} (h : W.heap[R]? = some (.cells cs T (0, 0))) : Re W W R cs T := ⟨h, fun _ _ => rfl, rfl, rfl, rfl, rfl⟩
theorem Re.set {W W2 : World} {R : Nat} {cs : Array Value} {T : TypeId} (h : Re W W2 R cs T) (i : Nat) (v : Value) : Re W (W2.setCell ⟨R, i, none⟩ v) R (cs.setIfInBounds i v) T :=
  ⟨heap_set h.blk i v, fun k hk => (Below.heap_setCell _ _ _ _ hk).trans (h.oth k hk), h.os, h.tape, h.output, by have := h.size; simpa using this⟩
theorem Re.grown {w W W2 : World} {R : Nat} {cs : Array Value} {T : TypeId} {row : Option Nat} (h : Re W W2 R cs T) (hg : w.grownBy W row) (hR : w.heap.size ≤ R ∨ row = some R) : w.grownBy W2 row :=
  ⟨h.os.trans hg.os, h.tape.trans hg.tape, h.output.trans hg.output, by rw [h.size]; exact hg.size, fun k hk hne => (h.oth k (fun e => by
    rcases hR with hR | hR
    · omega
    · exact hne (by rw [hR, e]))).trans (hg.block k hk hne)⟩
theorem Re.below {w W W2 : World} {R B : Nat} {cs : Array Value} {T : TypeId} (h : Re W W2 R cs T) (hb : Below B w W) (hR : B ≤ R) : Below B w W2 :=
  ⟨h.os.trans hb.os, h.tape.trans hb.tape, h.output.trans hb.output, by rw [h.size]; exact hb.size, fun k hk => (h.oth k (by omega)).trans (hb.block k hk)⟩
theorem Re.str {W W2 : World} {R b : Nat} {cs : Array Value} {T : TypeId} {A : Option Addr} {cap : Nat} {l : List Int} {x : Int} (h : Re W W2 R cs T) (hs : Str W b A cap l x) (hR : b < R) : Str W2 b A cap l x :=
  hs.keep (h.oth b (by omega)) fun p hp => World.cell?_of_block (w := W) (h.oth p.block (by omega))
theorem Re.lt {W W2 : World} {R : Nat} {cs : Array Value} {T : TypeId} (h : Re W W2 R cs T) : R < W2.heap.size := (Array.getElem?_eq_some_iff.1 h.blk).1
theorem re1 {W W2 : World} {R : Nat} {a0 v0 : Value} {T : TypeId} (hz : W.heap[R]? = some (.cells #[a0] T (0, 0))) (h : (W.setCell ⟨R, 0, none⟩ v0) = W2) : Re W W2 R #[v0] T := by
  have := (Re.refl hz).set 0 v0
  rw [h] at this
  simpa using this
theorem re2 {W W2 : World} {R : Nat} {a0 a1 v0 v1 : Value} {T : TypeId} (hz : W.heap[R]? = some (.cells #[a0, a1] T (0, 0))) (h : ((W.setCell ⟨R, 0, none⟩ v0).setCell ⟨R, 1, none⟩ v1) = W2) : Re W W2 R #[v0, v1] T := by
  have := ((Re.refl hz).set 0 v0).set 1 v1
  rw [h] at this
  simpa using this
theorem re3 {W W2 : World} {R : Nat} {a0 a1 a2 v0 v1 v2 : Value} {T : TypeId} (hz : W.heap[R]? = some (.cells #[a0, a1, a2] T (0, 0))) (h : (((W.setCell ⟨R, 0, none⟩ v0).setCell ⟨R, 1, none⟩ v1).setCell ⟨R, 2, none⟩ v2) = W2) : Re W W2 R #[v0, v1, v2] T := by
  have := (((Re.refl hz).set 0 v0).set 1 v1).set 2 v2
  rw [h] at this
  simpa using this
theorem re4 {W W2 : World} {R : Nat} {a0 a1 a2 a3 v0 v1 v2 v3 : Value} {T : TypeId} (hz : W.heap[R]? = some (.cells #[a0, a1, a2, a3] T (0, 0))) (h : ((((W.setCell ⟨R, 0, none⟩ v0).setCell ⟨R, 1, none⟩ v1).setCell ⟨R, 2, none⟩ v2).setCell ⟨R, 3, none⟩ v3) = W2) : Re W W2 R #[v0, v1, v2, v3] T := by
  have := ((((Re.refl hz).set 0 v0).set 1 v1).set 2 v2).set 3 v3
  rw [h] at this
  simpa using this
theorem re5 {W W2 : World} {R : Nat} {a0 a1 a2 a3 a4 v0 v1 v2 v3 v4 : Value} {T : TypeId} (hz : W.heap[R]? = some (.cells #[a0, a1, a2, a3, a4] T (0, 0))) (h : (((((W.setCell ⟨R, 0, none⟩ v0).setCell ⟨R, 1, none⟩ v1).setCell ⟨R, 2, none⟩ v2).setCell ⟨R, 3, none⟩ v3).setCell ⟨R, 4, none⟩ v4) = W2) : Re W W2 R #[v0, v1, v2, v3, v4] T := by
  have := (((((Re.refl hz).set 0 v0).set 1 v1).set 2 v2).set 3 v3).set 4 v4
  rw [h] at this
  simpa using this
theorem re8 {W W2 : World} {R : Nat} {a0 a1 a2 a3 a4 a5 a6 a7 v0 v1 v2 v3 v4 v5 v6 v7 : Value} {T : TypeId} (hz : W.heap[R]? = some (.cells #[a0, a1, a2, a3, a4, a5, a6, a7] T (0, 0))) (h : ((((((((W.setCell ⟨R, 0, none⟩ v0).setCell ⟨R, 1, none⟩ v1).setCell ⟨R, 2, none⟩ v2).setCell ⟨R, 3, none⟩ v3).setCell ⟨R, 4, none⟩ v4).setCell ⟨R, 5, none⟩ v5).setCell ⟨R, 6, none⟩ v6).setCell ⟨R, 7, none⟩ v7) = W2) : Re W W2 R #[v0, v1, v2, v3, v4, v5, v6, v7] T := by
  have := ((((((((Re.refl hz).set 0 v0).set 1 v1).set 2 v2).set 3 v3).set 4 v4).set 5 v5).set 6 v6).set 7 v7
  rw [h] at this
  simpa using this
theorem res1 {W : World} {R : Nat} {a0 : Value} {T : TypeId} (h : W.heap[R]? = some (.cells #[a0] T (0, 0))) : W.cell? ⟨R, 0, none⟩ = some a0 ∧ W.frozen? ⟨R, 0, none⟩ = false :=
  ⟨by simp [World.cell?, h], by simp [World.frozen?, h]⟩
theorem res2 {W : World} {R : Nat} {a0 a1 : Value} {T : TypeId} (h : W.heap[R]? = some (.cells #[a0, a1] T (0, 0))) : (W.cell? ⟨R, 0, none⟩ = some a0 ∧ W.cell? ⟨R, 1, none⟩ = some a1) ∧ W.frozen? ⟨R, 0, none⟩ = false ∧ W.frozen? ⟨R, 1, none⟩ = false := by
  refine ⟨⟨?_, ?_⟩, ?_, ?_⟩ <;> simp [World.cell?, World.frozen?, h]
theorem res4 {W : World} {R : Nat} {a0 a1 a2 a3 : Value} {T : TypeId} (h : W.heap[R]? = some (.cells #[a0, a1, a2, a3] T (0, 0))) : (W.cell? ⟨R, 0, none⟩ = some a0 ∧ W.cell? ⟨R, 1, none⟩ = some a1 ∧ W.cell? ⟨R, 2, none⟩ = some a2 ∧ W.cell? ⟨R, 3, none⟩ = some a3) ∧ W.frozen? ⟨R, 0, none⟩ = false ∧ W.frozen? ⟨R, 1, none⟩ = false ∧ W.frozen? ⟨R, 2, none⟩ = false ∧ W.frozen? ⟨R, 3, none⟩ = false := by
  refine ⟨⟨?_, ?_, ?_, ?_⟩, ?_, ?_, ?_, ?_⟩ <;> simp [World.cell?, World.frozen?, h]
theorem res5 {W : World} {R : Nat} {a0 a1 a2 a3 a4 : Value} {T : TypeId} (h : W.heap[R]? = some (.cells #[a0, a1, a2, a3, a4] T (0, 0))) : (W.cell? ⟨R, 0, none⟩ = some a0 ∧ W.cell? ⟨R, 1, none⟩ = some a1 ∧ W.cell? ⟨R, 2, none⟩ = some a2 ∧ W.cell? ⟨R, 3, none⟩ = some a3 ∧ W.cell? ⟨R, 4, none⟩ = some a4) ∧ W.frozen? ⟨R, 0, none⟩ = false ∧ W.frozen? ⟨R, 1, none⟩ = false ∧ W.frozen? ⟨R, 2, none⟩ = false ∧ W.frozen? ⟨R, 3, none⟩ = false ∧ W.frozen? ⟨R, 4, none⟩ = false := by
  refine ⟨⟨?_, ?_, ?_, ?_, ?_⟩, ?_, ?_, ?_, ?_, ?_⟩ <;> simp [World.cell?, World.frozen?, h]
theorem res8 {W : World} {R : Nat} {a0 a1 a2 a3 a4 a5 a6 a7 : Value} {T : TypeId} (h : W.heap[R]? = some (.cells #[a0, a1, a2, a3, a4, a5, a6, a7] T (0, 0))) : (W.cell? ⟨R, 0, none⟩ = some a0 ∧ W.cell? ⟨R, 1, none⟩ = some a1 ∧ W.cell? ⟨R, 2, none⟩ = some a2 ∧ W.cell? ⟨R, 3, none⟩ = some a3 ∧ W.cell? ⟨R, 4, none⟩ = some a4 ∧ W.cell? ⟨R, 5, none⟩ = some a5 ∧ W.cell? ⟨R, 6, none⟩ = some a6 ∧ W.cell? ⟨R, 7, none⟩ = some a7) ∧ W.frozen? ⟨R, 0, none⟩ = false ∧ W.frozen? ⟨R, 1, none⟩ = false ∧ W.frozen? ⟨R, 2, none⟩ = false ∧ W.frozen? ⟨R, 3, none⟩ = false ∧ W.frozen? ⟨R, 4, none⟩ = false ∧ W.frozen? ⟨R, 5, none⟩ = false ∧ W.frozen? ⟨R, 6, none⟩ = false ∧ W.frozen? ⟨R, 7, none⟩ = false := by
  refine ⟨⟨?_, ?_, ?_, ?_, ?_, ?_, ?_, ?_⟩, ?_, ?_, ?_, ?_, ?_, ?_, ?_, ?_⟩ <;> simp [World.cell?, World.frozen?, h]

/-- The stream has handed out at most m numbers more. -/
def StrTo (w w' : World) (b : Nat) (A : Option Addr) (cap : Nat) (l : List Int) (at_ : Int) (m : Int) : Prop := ∃ at', at_ ≤ at' ∧ at' ≤ at_ + m ∧ Str w' b A cap l at' ∧ w.grownBy w' (some b)
/-- A right address. -/
def AddrFine (six : Bool) (hi lo : Int) : Prop := (0 ≤ hi ∧ hi ≤ 18446744073709551615) ∧ (0 ≤ lo ∧ lo ≤ 18446744073709551615) ∧ (six = false → hi = 0 ∧ lo ≤ 4294967295)
theorem AddrFine.code {six : Bool} {hi lo : Int} (h : AddrFine six hi lo) : addrCode six hi lo = 0 := by
  unfold AddrFine at h
  unfold addrCode
  rw [if_neg]
  rintro ⟨h1, h2⟩
  have := h.2.2 h1
  omega
theorem fine_six {hi lo : Int} (h : 0 ≤ hi ∧ hi ≤ 18446744073709551615) (k : 0 ≤ lo ∧ lo ≤ 18446744073709551615) : AddrFine true hi lo := ⟨h, k, fun e => by cases e⟩
theorem fine_four {lo : Int} (h : 0 ≤ lo) (k : lo ≤ 4294967295) : AddrFine false 0 lo := ⟨by omega, by omega, fun _ => ⟨rfl, k⟩⟩
theorem fine_list (k : Nat) : AddrFine false 0 (([0, 1, 4294967295, 2130706433, 3232235521] : List Int).getD k 0) := by
  rcases k with _ | _ | _ | _ | _ | k
  · exact fine_four (by decide) (by decide)
  · exact fine_four (by decide) (by decide)
  · exact fine_four (by decide) (by decide)
  · exact fine_four (by decide) (by decide)
  · exact fine_four (by decide) (by decide)
  · exact fine_four (by simp) (by simp)
def AddrOut (w : World) (b : Nat) (A : Option Addr) (cap : Nat) (l : List Int) (at_ m : Int) (e : Ending) (w' : World) : Prop :=
  ∃ six hi lo, e = .returned (.agg #[.bool six, .int .u64 hi, .int .u64 lo]) ∧ AddrFine six hi lo ∧ StrTo w w' b A cap l at_ m
theorem u64_at {w w' : World} {g : Nat} {vs : List Int} {T : TypeId} {row : Option Nat} (hg : w.heap[g]? = some (.cells (vs.map (Value.int .u64)).toArray T (0, 0))) (hgr : w.grownBy w' row) (hne : some g ≠ row) {k : Nat} (hk : k < vs.length) : w'.cell? ⟨g, k, none⟩ = some (.int .u64 (vs.getD k 0)) := by
  have hb : w'.heap[g]? = w.heap[g]? := hgr.block g (Array.getElem?_eq_some_iff.1 hg).1 hne
  rw [World.cell?_of_block (w := w) hb]
  simp [World.cell?, hg, List.getElem?_eq_getElem hk]
theorem u64_nonneg {vs : List Int} (h : ∀ v ∈ vs, 0 ≤ v) (k : Nat) : 0 ≤ vs.getD k 0 := by
  by_cases hk : k < vs.length
  · rw [List.getD_eq_getElem?_getD, List.getElem?_eq_getElem hk]; exact h _ (List.getElem_mem hk)
  · rw [List.getD_eq_getElem?_getD, List.getElem?_eq_none (by omega)]; simp

theorem str_other {W W2 : World} {b R : Nat} {A : Option Addr} {cap : Nat} {l : List Int} {x : Int} (h : Str W b A cap l x) (hR : b < R) (hk : ∀ k, k ≠ R → W2.heap[k]? = W.heap[k]?) : Str W2 b A cap l x :=
  h.keep (hk b (by omega)) fun p hp => World.cell?_of_block (w := W) (hk p.block (by omega))
/-- The drawn address is laid into the result. -/
theorem addr_fin {w W W2 : World} {b : Nat} {A : Option Addr} {cap : Nat} {l : List Int} {x : Int} {T : TypeId} {a0 a1 a2 : Value} {v0 v1 v2 : Value} (hb : b < w.heap.size) (hz : W.heap[w.heap.size]? = some (.cells #[a0, a1, a2] T (0, 0)))
    (hS : Str W b A cap l x) (hg : w.grownBy W (some b)) (h : ((W.setCell ⟨w.heap.size, 0, none⟩ v0).setCell ⟨w.heap.size, 1, none⟩ v1).setCell ⟨w.heap.size, 2, none⟩ v2 = W2) :
    W2.heap[w.heap.size]? = some (.cells #[v0, v1, v2] T (0, 0)) ∧ Str W2 b A cap l x ∧ w.grownBy W2 (some b) := by
  have hk : ∀ k, k ≠ w.heap.size → W2.heap[k]? = W.heap[k]? := fun k hk => by
    rw [← h, Below.heap_setCell _ _ _ _ hk, Below.heap_setCell _ _ _ _ hk, Below.heap_setCell _ _ _ _ hk]
  refine ⟨?_, str_other hS hb hk, ⟨?_, ?_, ?_, ?_, fun k hk' hne => (hk k (by omega)).trans (hg.block k hk' hne)⟩⟩
  · have := heap_set (heap_set (heap_set hz 0 v0) 1 v1) 2 v2
    rw [h] at this
    simpa using this
  · rw [← h]; exact hg.os
  · rw [← h]; exact hg.tape
  · rw [← h]; exact hg.output
  · rw [← h]; have := hg.size; simpa using this
theorem str_mono {w w' : World} {b : Nat} {A : Option Addr} {cap : Nat} {l : List Int} {at_ x m : Int} (hS : Str w' b A cap l x) (hg : w.grownBy w' (some b)) (h0 : at_ ≤ x) (h1 : x ≤ at_ + m) : StrTo w w' b A cap l at_ m := ⟨x, h0, h1, hS, hg⟩

theorem five_at {a b c d e k : Int} (ha : 0 ≤ a ∧ a ≤ 18446744073709551615) (hb : 0 ≤ b ∧ b ≤ 18446744073709551615) (hc : 0 ≤ c ∧ c ≤ 18446744073709551615) (hd : 0 ≤ d ∧ d ≤ 18446744073709551615) (he : 0 ≤ e ∧ e ≤ 18446744073709551615) (h0 : 0 ≤ k) (h1 : k < 5) : ∃ x, ((#[Value.int .u64 a, .int .u64 b, .int .u64 c, .int .u64 d, .int .u64 e] : Array Value)[k.toNat]? = some (.int .u64 x) ∧ ∀ h, ([Value.int .u64 a, .int .u64 b, .int .u64 c, .int .u64 d, .int .u64 e] : List Value)[k.toNat]'h = .int .u64 x) ∧ (0 ≤ x ∧ x ≤ 18446744073709551615) := by
  have : k.toNat = 0 ∨ k.toNat = 1 ∨ k.toNat = 2 ∨ k.toNat = 3 ∨ k.toNat = 4 := by omega
  generalize k.toNat = j at *
  rcases this with rfl | rfl | rfl | rfl | rfl
  · exact ⟨a, ⟨rfl, fun _ => rfl⟩, ha⟩
  · exact ⟨b, ⟨rfl, fun _ => rfl⟩, hb⟩
  · exact ⟨c, ⟨rfl, fun _ => rfl⟩, hc⟩
  · exact ⟨d, ⟨rfl, fun _ => rfl⟩, hd⟩
  · exact ⟨e, ⟨rfl, fun _ => rfl⟩, he⟩
theorem blk_w {W w2 : World} {R b : Nat} {o : Obj} (hg : W.grownBy w2 (some b)) (hW : W.heap[R]? = some o) (hR : R ≠ b) : w2.heap[R]? = some o := (hg.block R (lt_of_block hW) (fun e => hR (by injection e))).trans hW
theorem res3 {W : World} {R : Nat} {a0 a1 a2 : Value} {T : TypeId} (h : W.heap[R]? = some (.cells #[a0, a1, a2] T (0, 0))) : W.cell? ⟨R, 0, none⟩ = some a0 ∧ W.cell? ⟨R, 1, none⟩ = some a1 ∧ W.cell? ⟨R, 2, none⟩ = some a2 ∧ W.frozen? ⟨R, 0, none⟩ = false ∧ W.frozen? ⟨R, 1, none⟩ = false ∧ W.frozen? ⟨R, 2, none⟩ = false := by
  refine ⟨?_, ?_, ?_, ?_, ?_, ?_⟩ <;> simp [World.cell?, World.frozen?, h]
theorem Str.dr {w : World} {b : Nat} {A : Option Addr} {cap : Nat} {l : List Int} {x : Int} (h : Str w b A cap l x) : Str w.drew b A cap l x := h.keep rfl fun _ _ => rfl
theorem drew_grown {w w' : World} {r : Option Nat} (h : w.drew.grownBy w' r) : w.grownBy w' r := ⟨h.os, h.tape, h.output, h.size, h.block⟩
theorem gcell {W w2 : World} {b : Nat} (h : W.grownBy w2 (some b)) : (∀ k i, k < W.heap.size → k ≠ b → w2.cell? ⟨k, i, none⟩ = W.cell? ⟨k, i, none⟩) ∧ (∀ k i, k < W.heap.size → k ≠ b → w2.frozen? ⟨k, i, none⟩ = W.frozen? ⟨k, i, none⟩) ∧ W.heap.size ≤ w2.heap.size :=
  ⟨fun k i hk hb => World.cell?_of_block (w := W) (h.block k hk (fun e => hb (by injection e))), fun k i hk hb => World.frozen?_of_block (w := W) (h.block k hk (fun e => hb (by injection e))), h.size⟩
end Go.Proofs.YtedpjecbfcogcaaGreatDoor
