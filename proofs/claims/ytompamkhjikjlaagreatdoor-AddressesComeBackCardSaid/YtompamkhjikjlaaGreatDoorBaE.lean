/- name.Back. -/
import Derived.Test.YtompamkhjikjlaaGreatDoorBaD
namespace Go.Proofs.YtompamkhjikjlaaGreatDoor
open Go.RowKit Go.Hw Go.Shelf

/-- The number of an address. -/
def adN (six : Bool) (hi lo : Nat) : Nat := if six then hi * 18446744073709551616 + lo else lo
/-- An address without a fault. -/
def AdFine (six : Bool) (hi lo : Nat) : Prop := hi < 18446744073709551616 ∧ lo < 18446744073709551616 ∧ (six = false → hi = 0 ∧ lo < 4294967296)
theorem AdFine.code {six : Bool} {hi lo : Nat} (h : AdFine six hi lo) : addrCode six hi lo = 0 := by
  unfold addrCode
  cases six
  · obtain ⟨rfl, h2⟩ := h.2.2 rfl
    rw [if_neg]
    omega
  · simp
theorem backIn_any (six : Bool) (hi lo : Nat) (h : AdFine six hi lo) (w : World) (V : NmVars w) :
    Calls Tryz.prog 11 #[.agg #[.bool six, .int .u64 hi, .int .u64 lo]] w fun e w' => e = .returned (.string (toB (backB six (adN six hi lo)))) ∧ Below w.heap.size w w' := by
  cases six
  · obtain ⟨rfl, h2⟩ := h.2.2 rfl
    exact back_four lo h2 w V
  · exact back_six hi lo _ rfl h.1 h.2.1 w V

set_option maxRecDepth 100000 in
set_option maxHeartbeats 1000000 in
theorem back_any (six : Bool) (hi lo : Nat) (h : AdFine six hi lo) (w : World) (V : NmVars w) :
    Calls Tryz.prog 5 #[.agg #[.bool six, .int .u64 hi, .int .u64 lo]] w fun e w' => e = .returned (.tuple #[.string (toB (backB six (adN six hi lo))), .int .i64 0]) ∧ Below w.heap.size w w' := by
  have hc := fun W => checkAddr_any six hi lo W (by omega)
  rw [h.code] at hc
  have hb := fun W (hW : Below w.heap.size w W) => backIn_any six hi lo h W (V.below hW (Nat.le_refl _))
  generalize toB (backB six (adN six hi lo)) = s at *
  clear h V
  go_enter Tryz.func5, Tryz.ntmps5
  go_wp2_with fail
  have HA := Lib.hid ((Below.refl w.heap.size w).alloc (Nat.le_refl _) (.cells #[.bool six, .int .u64 hi, .int .u64 lo] 28))
  have HX : Hid ((w.alloc (.cells #[.bool six, .int .u64 hi, .int .u64 lo] 28)).heap[w.heap.size]? = some (.cells #[.bool six, .int .u64 hi, .int .u64 lo] 28 (0, 0))) := Lib.hid (heap_alloc_new _ _)
  generalize w.alloc _ = W1 at *
  refine (hc W1).mono ?_
  rintro e W2 ⟨rfl, hb2⟩
  obtain ⟨x0, x1, x2, -⟩ := res3 ((hb2.block _ (Array.getElem?_eq_some_iff.1 HX.out).1).trans HX.out)
  have HB := Lib.hid (HA.out.trans (hb2.mono HA.out.size))
  clear hb2 HA HX hc
  go_wp2_with fail
  refine (hb W2 HB.out).mono ?_
  rintro e W3 ⟨rfl, hb3⟩
  have HB3 := Lib.hid (HB.out.trans (hb3.mono HB.out.size))
  clear hb3 hb x0 x1 x2
  go_wp2_with fail
  refine bodyPost_ret (v := .tuple #[.string s, .int .i64 0]) (by simp [results, Tryz.results5, go_sem]) rfl ⟨rfl, HB3.out⟩
end Go.Proofs.YtompamkhjikjlaaGreatDoor
