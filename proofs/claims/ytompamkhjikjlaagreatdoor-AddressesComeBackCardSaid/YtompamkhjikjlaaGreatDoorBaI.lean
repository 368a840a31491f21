/- AddressesComeBack: the walk. -/
import Derived.Test.YtompamkhjikjlaaGreatDoorBaG
import Derived.Test.YtompamkhjikjlaaGreatDoorBaH
import Derived.Test.YtompamkhjikjlaaGreatDoorAdr
import Derived.Test.YtompamkhjikjlaaGreatDoorReady
import Derived.Test.YtompamkhjikjlaaGreatDoorBaJ
namespace Go.Proofs.YtompamkhjikjlaaGreatDoor
open Go.RowKit Go.Hw Go.Shelf

/-- name.BackTo of an address's own name. -/
theorem backTo_any (six : Bool) (hi lo : Nat) (h : AdFine six hi lo) (w : World) (V : NmVars w) :
    Calls Tryz.prog 6 #[.string (toB (backB six (adN six hi lo)))] w fun e w' => e = .returned (.tuple #[.agg #[.bool six, .int .u64 hi, .int .u64 lo], .bool true, .int .i64 0]) ∧ Below w.heap.size w w' := by
  cases six
  · obtain ⟨rfl, h2⟩ := h.2.2 rfl
    exact backTo_four lo h2 w V
  · exact backTo_six hi lo h.1 h.2.1 w V

set_option maxRecDepth 100000 in
set_option maxHeartbeats 2000000 in
theorem addrsBack_any (A : Option Addr) (cap : Nat) (l : List Int) (w : World) (hA : ∀ i, i < l.length → ∃ g off, A = some ⟨g, off, none⟩ ∧ g < w.heap.size ∧ w.cell? ⟨g, off + i, none⟩ = some (.int .i64 (l.getD i 0)))
    (hfits : ∀ i, -9223372036854775808 ≤ l.getD i 0 ∧ l.getD i 0 ≤ 9223372036854775807) (hlong : l.length ≤ 17592186044416) (V : NmVars w) :
    Calls Tryz.prog 3 #[.slice A l.length cap] w fun e w' => e = .returned (.bool true) ∧ Below w.heap.size w w' := by
  have hs0 : Str (w.alloc (.cells #[.slice A l.length cap, .int .i64 0] 25)) w.heap.size A cap l 0 := {
    cell := heap_alloc_new w _
    ints := fun i hi => by
      obtain ⟨g, off, h1, h2, h3⟩ := hA i hi
      exact ⟨g, off, h1, h2, by rw [World.cell?_alloc_lt _ _ _ h2]; exact h3⟩
    fits := hfits
    long := hlong
    low := by omega
    high := by omega }
  have hB0 : Below w.heap.size w (w.alloc (.cells #[.slice A l.length cap, .int .i64 0] 25)) := (Below.refl _ _).alloc (Nat.le_refl _) _
  have HS := Lib.hid hs0
  have HB := Lib.hid hB0
  have HV := Lib.hid V
  clear hs0 hB0 hA hfits V
  go_enter Tryz.func3, Tryz.ntmps3
  go_wp2_with fail
  generalize hW : World.alloc _ _ = W1 at HS HB ⊢
  clear hW
  have hlt1 := HS.out.lt
  refine (addr_any w.heap.size A cap l 0 W1 HS.out (by omega)).mono ?_
  rintro e W2 ⟨six, hi, lo, rfl, hfa, x2, hx2a, hx2b, hs2, hg2⟩
  have HB2 := Lib.hid (HB.out.grown hg2 HB.out.size (fun j e => by injection e with e; omega))
  obtain ⟨h1, h2, h3⟩ := hfa
  obtain ⟨h, rfl⟩ := Int.eq_ofNat_of_zero_le h1.1
  obtain ⟨a, rfl⟩ := Int.eq_ofNat_of_zero_le h2.1
  have HF : Hid (AdFine six h a) := Lib.hid ⟨by omega, by omega, fun e => by have := h3 e; omega⟩
  clear HS HB hg2 hs2 h1 h2 h3 hx2a hx2b
  go_wp2_with fail
  have HBC := Lib.hid (HB2.out.alloc HB2.out.size (.cells #[.bool six, .int .u64 h, .int .u64 a] 28))
  have HC := Lib.hid (heap_alloc_new W2 (.cells #[.bool six, .int .u64 h, .int .u64 a] 28))
  generalize W2.alloc _ = W3 at *
  have hl3 := (Array.getElem?_eq_some_iff.1 HC.out).1
  refine (back_any six h a HF.out W3 (HV.out.below HBC.out (Nat.le_refl _))).mono ?_
  rintro e W4 ⟨rfl, hb4⟩
  have HB4 := Lib.hid (HBC.out.trans (hb4.mono HBC.out.size))
  have HC4 := Lib.hid ((hb4.block _ hl3).trans HC.out)
  have hbt := fun W V' => backTo_any six h a HF.out W V'
  generalize toB (backB six (adN six h a)) = s at *
  clear HBC HC hb4 HB2
  go_wp2_with fail
  refine (hbt W4 (HV.out.below HB4.out (Nat.le_refl _))).mono ?_
  rintro e W5 ⟨rfl, hb5⟩
  have HB5 := Lib.hid (HB4.out.trans (hb5.mono HB4.out.size))
  have HC5 := Lib.hid ((hb5.block _ (Array.getElem?_eq_some_iff.1 HC4.out).1).trans HC4.out)
  clear hbt hb5 HB4 HC4
  have HB6 := Lib.hid (HB5.out.alloc HB5.out.size (.cells #[.bool six, .int .u64 h, .int .u64 a] 28))
  have HC6 := Lib.hid ((heap_alloc_old W5 (.cells #[.bool six, .int .u64 h, .int .u64 a] 28) (Array.getElem?_eq_some_iff.1 HC5.out).1).trans HC5.out)
  have HD6 := Lib.hid (heap_alloc_new W5 (.cells #[.bool six, .int .u64 h, .int .u64 a] 28))
  have hg := guard_addr
  have hrq := fun d W => run_eq_addr d six six h h a a W
  obtain ⟨x0, x1, x2, -⟩ := res3 HC6.out
  clear HC5 HC6 HB5
  go_wp2_with fail
  refine Calls.mono (ready_true _) ?_
  rintro _ W9 ⟨rfl, hb9⟩
  have HB9 := Lib.hid (HB6.out.trans (hb9.mono HB6.out.size))
  clear hb9
  go_wp2_with fail
  go_ret
  exact ⟨rfl, HB9.out⟩
end Go.Proofs.YtompamkhjikjlaaGreatDoor
