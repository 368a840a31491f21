/- Small words about cells, for any seat. A block of memory that is laid anew; words for the stream. slices.Sort at numbers that the call owns. addr.CheckAddr. Stream.Range. What the stream draws: addresses. Stream.Addr, as a function of what the stream draws. -/
import Derived.Test.YtajifionclpphaaGreatDoorPick
import Derived.Test.YtajifionclpphaaGreatDoorKey2
import Derived.OneCell
import Derived.Test.YtajifionclpphaaGreatDoorShelf
import Derived.Sort.OwnSortedInts
import Derived.Lib.OwnBridge
import Derived.Lib.RowBridge
import Derived.Deep.RegionHeld3
namespace Go.Proofs.YtajifionclpphaaGreatDoor
open Go.RowKit Go.Hw
theorem cell_drew (w : World) (a : Addr) : w.drew.cell? a = w.cell? a := rfl
theorem heap_set {w : World} {g : Nat} {c : Array Value} {t : TypeId} {l} (h : w.heap[g]? = some (.cells c t l)) (i : Nat) (v : Value) :
    (w.setCell ⟨g, i, none⟩ v).heap[g]? = some (.cells (c.setIfInBounds i v) t l) := by
  simp [World.setCell, Array.getElem?_modify, h]
theorem cell_of {w : World} {g : Nat} {c : Array Value} {t : TypeId} {l} (h : w.heap[g]? = some (.cells c t l)) (i : Nat) : w.cell? ⟨g, i, none⟩ = c[i]? := by simp [World.cell?, h]
end Go.Proofs.YtajifionclpphaaGreatDoor

namespace Go.Proofs.YtajifionclpphaaGreatDoor
open Go.RowKit Go.Hw

/-- Block R of W2 holds cs, and all else is as in W. -/
structure Re (W W2 : World) (R : Nat) (cs : Array Value) (T : TypeId) : Prop where
  blk : W2.heap[R]? = some (.cells cs T (0, 0))
  oth : ∀ k, k ≠ R → W2.heap[k]? = W.heap[k]?
  os : W2.os = W.os
  tape : W2.tape = W.tape
  output : W2.output = W.output
  size : W2.heap.size = W.heap.size
theorem grownB {w w1 : World} (h : Below w.heap.size w w1) (row : Option Nat) : w.grownBy w1 row := ⟨h.os, h.tape, h.output, h.size, fun k hk _ => h.block k hk⟩
theorem Re.refl {W : World} {R : Nat} {cs : Array Value} {T : TypeId} (h : W.heap[R]? = some (.cells cs T (0, 0))) : Re W W R cs T := ⟨h, fun _ _ => rfl, rfl, rfl, rfl, rfl⟩
theorem Re.set {W W2 : World} {R : Nat} {cs : Array Value} {T : TypeId} (h : Re W W2 R cs T) (i : Nat) (v : Value) : Re W (W2.setCell ⟨R, i, none⟩ v) R (cs.setIfInBounds i v) T :=
  ⟨heap_set h.blk i v, fun k hk => (Below.heap_setCell _ _ _ _ hk).trans (h.oth k hk), h.os, h.tape, h.output, by have := h.size; simpa using this⟩
theorem Re.grown {w W W2 : World} {R : Nat} {cs : Array Value} {T : TypeId} {row : Option Nat} (h : Re W W2 R cs T) (hg : w.grownBy W row) (hR : w.heap.size ≤ R ∨ row = some R) : w.grownBy W2 row :=
  ⟨h.os.trans hg.os, h.tape.trans hg.tape, h.output.trans hg.output, by rw [h.size]; exact hg.size, fun k hk hne => (h.oth k (fun e => by
    rcases hR with hR | hR
    · omega
    · exact hne (by rw [hR, e]))).trans (hg.block k hk hne)⟩
theorem Re.below {w W W2 : World} {R B : Nat} {cs : Array Value} {T : TypeId} (h : Re W W2 R cs T) (hb : Below B w W) (hR : B ≤ R) : Below B w W2 :=
  ⟨h.os.trans hb.os, h.tape.trans hb.tape, h.output.trans hb.output, by rw [h.size]; exact hb.size, fun k hk => (h.oth k (by omega)).trans (hb.block k hk)⟩
theorem Re.lt {W W2 : World} {R : Nat} {cs : Array Value} {T : TypeId} (h : Re W W2 R cs T) : R < W2.heap.size := (Array.getElem?_eq_some_iff.1 h.blk).1
theorem re3 {W W2 : World} {R : Nat} {a0 a1 a2 v0 v1 v2 : Value} {T : TypeId} (hz : W.heap[R]? = some (.cells #[a0, a1, a2] T (0, 0))) (h : (((W.setCell ⟨R, 0, none⟩ v0).setCell ⟨R, 1, none⟩ v1).setCell ⟨R, 2, none⟩ v2) = W2) : Re W W2 R #[v0, v1, v2] T := by
  have := (((Re.refl hz).set 0 v0).set 1 v1).set 2 v2
  rw [h] at this
  simpa using this
theorem re4 {W W2 : World} {R : Nat} {a0 a1 a2 a3 v0 v1 v2 v3 : Value} {T : TypeId} (hz : W.heap[R]? = some (.cells #[a0, a1, a2, a3] T (0, 0))) (h : ((((W.setCell ⟨R, 0, none⟩ v0).setCell ⟨R, 1, none⟩ v1).setCell ⟨R, 2, none⟩ v2).setCell ⟨R, 3, none⟩ v3) = W2) : Re W W2 R #[v0, v1, v2, v3] T := by
  have := ((((Re.refl hz).set 0 v0).set 1 v1).set 2 v2).set 3 v3
  rw [h] at this
  simpa using this
theorem res2 {W : World} {R : Nat} {a0 a1 : Value} {T : TypeId} (h : W.heap[R]? = some (.cells #[a0, a1] T (0, 0))) : (W.cell? ⟨R, 0, none⟩ = some a0 ∧ W.cell? ⟨R, 1, none⟩ = some a1) ∧ W.frozen? ⟨R, 0, none⟩ = false ∧ W.frozen? ⟨R, 1, none⟩ = false := by
  refine ⟨⟨?_, ?_⟩, ?_, ?_⟩ <;> simp [World.cell?, World.frozen?, h]
theorem res4 {W : World} {R : Nat} {a0 a1 a2 a3 : Value} {T : TypeId} (h : W.heap[R]? = some (.cells #[a0, a1, a2, a3] T (0, 0))) : (W.cell? ⟨R, 0, none⟩ = some a0 ∧ W.cell? ⟨R, 1, none⟩ = some a1 ∧ W.cell? ⟨R, 2, none⟩ = some a2 ∧ W.cell? ⟨R, 3, none⟩ = some a3) ∧ W.frozen? ⟨R, 0, none⟩ = false ∧ W.frozen? ⟨R, 1, none⟩ = false ∧ W.frozen? ⟨R, 2, none⟩ = false ∧ W.frozen? ⟨R, 3, none⟩ = false := by
  refine ⟨⟨?_, ?_, ?_, ?_⟩, ?_, ?_, ?_, ?_⟩ <;> simp [World.cell?, World.frozen?, h]
theorem res5 {W : World} {R : Nat} {a0 a1 a2 a3 a4 : Value} {T : TypeId} (h : W.heap[R]? = some (.cells #[a0, a1, a2, a3, a4] T (0, 0))) : (W.cell? ⟨R, 0, none⟩ = some a0 ∧ W.cell? ⟨R, 1, none⟩ = some a1 ∧ W.cell? ⟨R, 2, none⟩ = some a2 ∧ W.cell? ⟨R, 3, none⟩ = some a3 ∧ W.cell? ⟨R, 4, none⟩ = some a4) ∧ W.frozen? ⟨R, 0, none⟩ = false ∧ W.frozen? ⟨R, 1, none⟩ = false ∧ W.frozen? ⟨R, 2, none⟩ = false ∧ W.frozen? ⟨R, 3, none⟩ = false ∧ W.frozen? ⟨R, 4, none⟩ = false := by
  refine ⟨⟨?_, ?_, ?_, ?_, ?_⟩, ?_, ?_, ?_, ?_, ?_⟩ <;> simp [World.cell?, World.frozen?, h]
/-- The stream has handed out at most m numbers more. -/
def StrTo (w w' : World) (b : Nat) (A : Option Addr) (cap : Nat) (l : List Int) (at_ : Int) (m : Int) : Prop := ∃ at', at_ ≤ at' ∧ at' ≤ at_ + m ∧ Str w' b A cap l at' ∧ w.grownBy w' (some b)
theorem str_other {W W2 : World} {b R : Nat} {A : Option Addr} {cap : Nat} {l : List Int} {x : Int} (h : Str W b A cap l x) (hR : b < R) (hk : ∀ k, k ≠ R → W2.heap[k]? = W.heap[k]?) : Str W2 b A cap l x :=
  h.keep (hk b (by omega)) fun p hp => World.cell?_of_block (w := W) (hk p.block (by omega))
theorem res3 {W : World} {R : Nat} {a0 a1 a2 : Value} {T : TypeId} (h : W.heap[R]? = some (.cells #[a0, a1, a2] T (0, 0))) : W.cell? ⟨R, 0, none⟩ = some a0 ∧ W.cell? ⟨R, 1, none⟩ = some a1 ∧ W.cell? ⟨R, 2, none⟩ = some a2 ∧ W.frozen? ⟨R, 0, none⟩ = false ∧ W.frozen? ⟨R, 1, none⟩ = false ∧ W.frozen? ⟨R, 2, none⟩ = false := by
  refine ⟨?_, ?_, ?_, ?_, ?_, ?_⟩ <;> simp [World.cell?, World.frozen?, h]
theorem Str.dr {w : World} {b : Nat} {A : Option Addr} {cap : Nat} {l : List Int} {x : Int} (h : Str w b A cap l x) : Str w.drew b A cap l x := h.keep rfl fun _ _ => rfl
end Go.Proofs.YtajifionclpphaaGreatDoor

namespace Go.Proofs.YtajifionclpphaaGreatDoor
open Go.RowKit Go.Hw
theorem own_reads {w : World} {base : Nat} {e : TypeId} {size : Nat} {v : Value} {n : Nat} {xs : List Value} (h : w.ownsRow base e size v n xs) :
    ∃ A cap, v = .slice A n cap ∧ ∀ j u, xs[j]? = some u → ∃ g, A = some ⟨g, 0, none⟩ ∧ g < w.heap.size ∧ w.cell? ⟨g, j, none⟩ = some u := by
  obtain ⟨h1, ⟨h2, h0⟩ | ⟨g, cap, cur, h3, h4, h5, h6⟩⟩ := h
  · subst h2
    subst h0
    refine ⟨none, 0, rfl, fun j u hu => ?_⟩
    have : xs = [] := List.eq_nil_of_length_eq_zero (by simpa using h1)
    subst this
    simp at hu
  · subst h3
    have hlt := (Array.getElem?_eq_some_iff.1 h5).1
    refine ⟨some ⟨g, 0, none⟩, cap, rfl, fun j u hu => ⟨g, rfl, hlt, ?_⟩⟩
    have := World.ownsRow.cells (g := g) (⟨h1, .inr ⟨g, cap, cur, rfl, h4, h5, h6⟩⟩ : w.ownsRow base e size _ n xs) rfl j u hu
    have hadd : (⟨g, 0, none⟩ : Addr).add j = ⟨g, j, none⟩ := by unfold Addr.add; split <;> simp_all
    rwa [hadd] at this
end Go.Proofs.YtajifionclpphaaGreatDoor

namespace Go.Proofs.YtajifionclpphaaGreatDoor
open Go.RowKit Go.Hw Go.Shelf

def IntsOwn (w : World) (base : Nat) (v : Value) (zs : List Int) : Prop := w.ownsRow base 3 1 v zs.length (zs.map (Value.int .i64))
theorem own_nil_slice {w : World} {base : Nat} {e : TypeId} {size : Nat} {v : Value} {xs : List Value} (h : w.ownsRow base e size v 0 xs) : ∃ p cap, v = .slice p 0 cap := by
  rcases h.2 with ⟨h1, _⟩ | ⟨g, cap, cur, h1, _⟩
  · exact ⟨_, _, h1⟩
  · exact ⟨_, _, h1⟩
theorem sort_own (base : Nat) (v : Value) (zs : List Int) (w : World) (h : IntsOwn w base v zs) (hl : zs.length ≤ 1000000) :
    Calls Tryz.prog 156 #[v] w fun e w' => e = .returned (.tuple #[]) ∧ IntsOwn w' base v (zs.mergeSort fun x y => decide (x ≤ y)) ∧ w.grownBy w' v.ownBlock := by
  by_cases hz : zs = []
  · subst hz
    obtain ⟨p, cap, rfl⟩ := own_nil_slice h
    refine (Tryz.slices_Sort_int_none p cap w).mono ?_
    rintro e w' ⟨rfl, rfl⟩
    exact ⟨rfl, by simpa [IntsOwn] using h, World.grownBy.refl _ _⟩
  · have hv : v ≠ .slice none 0 0 := by
      rintro rfl
      rcases h.2 with ⟨_, h1⟩ | ⟨g, cap, cur, h1, _⟩
      · exact hz (List.eq_nil_of_length_eq_zero h1)
      · cases h1
    have h' := h
    obtain ⟨g, cap, rfl, hbg, hgl, hnc, hcm, _, hH⟩ := Go.Lib.holds_of_ownsRow h hv
    refine (Tryz.slices_Sort_int g 0 cap zs w hH hgl (by omega)).mono ?_
    rintro e w' ⟨rfl, n, os, rfl⟩
    rcases h'.2 with ⟨h1, _⟩ | ⟨g', cap', cur, e0, hb, hg, hn, hm, hs, _⟩
    · cases h1
    · injection e0 with e1 _ e3
      injection e1 with e1
      injection e1 with e1
      subst e1; subst e3
      refine ⟨rfl, ?_, grownBy_sortedI _⟩
      unfold IntsOwn
      have hl2 : (zs.mergeSort fun x y => decide (x ≤ y)).length = zs.length := List.length_mergeSort _
      have := ownsRow_sortedI (w := w) (n := n) (os := os) hl2 hb hg hn hm hs
      rw [hl2]
      exact this
/-- Numbers in memory, below block B. -/
def IntsAt (w : World) (B : Nat) (A : Option Addr) (ts : List Int) : Prop := ∀ j, j < ts.length → ∃ g, A = some ⟨g, 0, none⟩ ∧ g < B ∧ w.cell? ⟨g, j, none⟩ = some (.int .i64 (ts.getD j 0))
theorem ints_at {w : World} {base : Nat} {v : Value} {zs : List Int} (h : IntsOwn w base v zs) : ∃ A cap, v = .slice A zs.length cap ∧ IntsAt w w.heap.size A zs ∧ ∀ g, A = some ⟨g, 0, none⟩ → v.ownBlock = some g := by
  obtain ⟨A, cap, rfl, hc⟩ := own_reads h
  refine ⟨A, cap, rfl, fun j hj => ?_, fun g hg => by rw [hg]; rfl⟩
  obtain ⟨g, h1, h2, h3⟩ := hc j (.int .i64 (zs.getD j 0)) (by rw [List.getElem?_map, List.getD_eq_getElem?_getD, List.getElem?_eq_getElem hj]; rfl)
  exact ⟨g, h1, h2, h3⟩
end Go.Proofs.YtajifionclpphaaGreatDoor

namespace Go.Proofs.YtajifionclpphaaGreatDoor
open Go.RowKit Go.Hw
/-- What is wrong with an address. -/
def addrCode (six : Bool) (hi lo : Int) : Int := if six = false ∧ (hi ≠ 0 ∨ 4294967296 ≤ lo) then 3 else 0
set_option maxRecDepth 100000 in
set_option maxHeartbeats 400000 in
theorem checkAddr_any (six : Bool) (hi lo : Int) (w : World) (h0 : 0 ≤ hi) :
    Calls Tryz.prog 34 #[.agg #[.bool six, .int .u64 hi, .int .u64 lo]] w fun e w' => e = .returned (.int .i64 (addrCode six hi lo)) ∧ Below w.heap.size w w' := by
  have hB : Below w.heap.size w (w.alloc (.cells #[.bool six, .int .u64 hi, .int .u64 lo] 30)) := (Below.refl _ _).alloc (Nat.le_refl _) _
  have HB := Lib.hid hB
  clear hB
  have hfin : addrCode six hi lo = addrCode six hi lo := rfl
  conv at hfin => rhs; unfold addrCode
  cases six
  · by_cases h1 : hi = 0
    · subst h1
      by_cases h2 : 4294967296 ≤ lo
      · have HF : Hid (addrCode false 0 lo = 3) := Lib.hid (by rw [hfin]; simp [h2])
        clear hfin
        go_enter Tryz.func34, Tryz.ntmps34
        go_wp2_with fail
        go_ret
        exact ⟨ret_eq HF.out.symm, HB.out⟩
      · have HF : Hid (addrCode false 0 lo = 0) := Lib.hid (by rw [hfin]; simp [h2])
        clear hfin
        go_enter Tryz.func34, Tryz.ntmps34
        go_wp2_with fail
        go_ret
        exact ⟨ret_eq HF.out.symm, HB.out⟩
    · have HF : Hid (addrCode false hi lo = 3) := Lib.hid (by rw [hfin]; simp [h1])
      clear hfin
      have e1 : (hi != 0) = true := by simpa using h1
      have e2 : (hi == 0) = false := by simpa using h1
      go_enter Tryz.func34, Tryz.ntmps34
      go_wp2_with fail
      go_ret
      exact ⟨ret_eq HF.out.symm, HB.out⟩
  · have HF : Hid (addrCode true hi lo = 0) := Lib.hid (by rw [hfin]; simp)
    clear hfin
    go_enter Tryz.func34, Tryz.ntmps34
    go_wp2_with fail
    go_ret
    exact ⟨ret_eq HF.out.symm, HB.out⟩
end Go.Proofs.YtajifionclpphaaGreatDoor

namespace Go.Proofs.YtajifionclpphaaGreatDoor
open Go.RowKit Go.Hw

theorem range_any (b : Nat) (A : Option Addr) (cap : Nat) (l : List Int) (at_ lo hi : Int) (w : World) (h : Str w b A cap l at_) (hlo : -4611686018427387904 ≤ lo) (hle : lo ≤ hi) (hhi : hi ≤ 4611686018427387903) (hh : at_ < 1099511627776) (hd : hi - lo + 1 ≤ 4611686018427387903) :
    Calls Tryz.prog 20 #[.pointer (some ⟨b, 0, none⟩), .int .i64 lo, .int .i64 hi] w fun e w' => e = .returned (.int .i64 (lo + drawOf l at_ (hi - lo + 1))) ∧ Str w' b A cap l (at_ + 1) ∧ w.grownBy w' (some b) := by
  have d1 := draw_low l at_ (hi - lo + 1) (by omega)
  have d2 := draw_high l at_ (hi - lo + 1) (by omega)
  go_enter Tryz.func20, Tryz.ntmps20
  go_wp2_with fail
  refine (next_any b A cap l at_ _ _ h (by omega) (by omega) hh).mono ?_
  rintro e w' ⟨rfl, hs, hg⟩
  clear h
  go_wp2_with fail
  go_ret
  exact ⟨rfl, hs, hg⟩

end Go.Proofs.YtajifionclpphaaGreatDoor

namespace Go.Proofs.YtajifionclpphaaGreatDoor
open Go.RowKit Go.Hw

/-- A right address. -/
def AddrFine (six : Bool) (hi lo : Int) : Prop := (0 ≤ hi ∧ hi ≤ 18446744073709551615) ∧ (0 ≤ lo ∧ lo ≤ 18446744073709551615) ∧ (six = false → hi = 0 ∧ lo ≤ 4294967295)
theorem AddrFine.code {six : Bool} {hi lo : Int} (h : AddrFine six hi lo) : addrCode six hi lo = 0 := by
  unfold AddrFine at h
  unfold addrCode
  rw [if_neg]
  rintro ⟨h1, h2⟩
  have := h.2.2 h1
  omega
end Go.Proofs.YtajifionclpphaaGreatDoor

namespace Go.Proofs.YtajifionclpphaaGreatDoor
open Go.RowKit Go.Hw

/-- Where the stream is behind the call, and what lies there. -/
def StrX (w w' : World) (b : Nat) (A : Option Addr) (cap : Nat) (l : List Int) (at_ m x : Int) : Prop := (at_ ≤ x ∧ x ≤ at_ + m) ∧ Str w' b A cap l x ∧ w.grownBy w' (some b)
theorem StrX.to {w w' : World} {b : Nat} {A : Option Addr} {cap : Nat} {l : List Int} {at_ x m : Int} (h : StrX w w' b A cap l at_ m x) : StrTo w w' b A cap l at_ m := ⟨x, h.1.1, h.1.2, h.2.1, h.2.2⟩
end Go.Proofs.YtajifionclpphaaGreatDoor
