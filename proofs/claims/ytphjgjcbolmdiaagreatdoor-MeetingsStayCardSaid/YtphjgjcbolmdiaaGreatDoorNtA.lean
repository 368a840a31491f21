/- Translators: spots, their comparison, the checks of addresses, ports and spots, what is seen of a spot. -/
import Derived.Test.YtphjgjcbolmdiaaGreatDoorIn1
import Derived.Test.YtphjgjcbolmdiaaGreatDoorRange
import Derived.Test.YtphjgjcbolmdiaaGreatDoorPick
import Derived.Test.YtphjgjcbolmdiaaGreatDoorOdd
import Derived.Test.YtphjgjcbolmdiaaGreatDoorLk
import Derived.Laws.StructEq
import Derived.Deep.RegionHeld3
namespace Go.Proofs.YtphjgjcbolmdiaaGreatDoor
open Go.RowKit Go.Hw

/-- One end of a packet. -/
structure Spot where
  six : Bool
  hi : Int
  lo : Int
  port : Int
def Spot.beq (a b : Spot) : Bool := a.six == b.six && (a.hi == b.hi && (a.lo == b.lo && a.port == b.port))
theorem Spot.beq_iff {a b : Spot} : a.beq b = true ↔ a = b := by
  unfold Spot.beq
  cases a; cases b
  simp
def spotC (s : Spot) : List Value := [.bool s.six, .int .u64 s.hi, .int .u64 s.lo, .int .i64 s.port]
def spotV (s : Spot) : Value := .agg #[.bool s.six, .int .u64 s.hi, .int .u64 s.lo, .int .i64 s.port]
def noSpot : Spot := ⟨false, 0, 0, 0⟩

theorem run_eq_addr (d : Nat) (a b : Bool) (x y u v : Int) (w : World) : (Op.equalIn (d + 2) 28 (.agg #[.bool a, .int .u64 x, .int .u64 u]) (.agg #[.bool b, .int .u64 y, .int .u64 v])).run Tryz.prog w = .ok (a == b && (x == y && u == v)) w := by
  have u1 := Tryz.underlying4
  have u2 := Tryz.underlying26
  have hA : Tryz.prog.underlying 28 = some (.struct (Tryz.prog.fieldsOf 28)) := by kernel_rfl
  have pA : Tryz.prog.stoodInHeld 28 = false := by kernel_rfl
  rw [run_equalIn_agg w (d + 1) 28 _ _ hA pA]
  simp only [Program.fieldsOf, Tryz.underlying28]
  go_simp
  by_cases h1 : a = b <;> by_cases h2 : x = y <;> by_cases h3 : u = v <;> simp [h1, h2, h3]
theorem run_eq_spot' (d : Nat) (a b : Spot) (w : World) : (Op.equalIn (d + 3) 42 (.agg #[.bool a.six, .int .u64 a.hi, .int .u64 a.lo, .int .i64 a.port]) (.agg #[.bool b.six, .int .u64 b.hi, .int .u64 b.lo, .int .i64 b.port])).run Tryz.prog w = .ok (a.beq b) w := by
  have u3 := Tryz.underlying3
  have hS : Tryz.prog.underlying 42 = some (.struct (Tryz.prog.fieldsOf 42)) := by kernel_rfl
  have pS : Tryz.prog.stoodInHeld 42 = false := by kernel_rfl
  have hx := run_eq_addr d a.six b.six a.hi b.hi a.lo b.lo
  rw [run_equalIn_agg w (d + 2) 42 _ _ hS pS]
  simp only [Program.fieldsOf, Tryz.underlying42]
  go_simp
  unfold Spot.beq
  by_cases h1 : a.six = b.six <;> by_cases h2 : a.hi = b.hi <;> by_cases h3 : a.lo = b.lo <;> by_cases h4 : a.port = b.port <;> simp [h1, h2, h3, h4]
theorem run_eq_spot (a b : Spot) (w : World) : (Op.equalIn 10000 42 (.agg #[.bool a.six, .int .u64 a.hi, .int .u64 a.lo, .int .i64 a.port]) (.agg #[.bool b.six, .int .u64 b.hi, .int .u64 b.lo, .int .i64 b.port])).run Tryz.prog w = .ok (a.beq b) w := run_eq_spot' 9997 a b w
theorem guard_spot : Tryz.prog.eqGuardType Tryz.prog.depth 42 = false := by kernel_rfl
theorem guard_addr : Tryz.prog.eqGuardType Tryz.prog.depth 28 = false := by kernel_rfl

/-- What is wrong with an address. -/
def addrCode (six : Bool) (hi lo : Int) : Int := if six = false ∧ (hi ≠ 0 ∨ 4294967296 ≤ lo) then 3 else 0

set_option maxRecDepth 100000 in
set_option maxHeartbeats 400000 in
theorem checkAddr_any (six : Bool) (hi lo : Int) (w : World) (h0 : 0 ≤ hi) :
    Calls Tryz.prog 59 #[.agg #[.bool six, .int .u64 hi, .int .u64 lo]] w fun e w' => e = .returned (.int .i64 (addrCode six hi lo)) ∧ Below w.heap.size w w' := by
  have hB : Below w.heap.size w (w.alloc (.cells #[.bool six, .int .u64 hi, .int .u64 lo] 28)) := (Below.refl _ _).alloc (Nat.le_refl _) _
  have HB := Lib.hid hB
  clear hB
  have hfin : addrCode six hi lo = addrCode six hi lo := rfl
  conv at hfin => rhs; unfold addrCode
  cases six
  · by_cases h1 : hi = 0
    · subst h1
      by_cases h2 : 4294967296 ≤ lo
      · have HF : Hid (addrCode false 0 lo = 3) := Lib.hid (by rw [hfin]; simp [h2])
        clear hfin
        go_enter Tryz.func59, Tryz.ntmps59
        go_wp2_with fail
        go_ret
        exact ⟨ret_eq HF.out.symm, HB.out⟩
      · have HF : Hid (addrCode false 0 lo = 0) := Lib.hid (by rw [hfin]; simp [h2])
        clear hfin
        go_enter Tryz.func59, Tryz.ntmps59
        go_wp2_with fail
        go_ret
        exact ⟨ret_eq HF.out.symm, HB.out⟩
    · have HF : Hid (addrCode false hi lo = 3) := Lib.hid (by rw [hfin]; simp [h1])
      clear hfin
      have e1 : (hi != 0) = true := by simpa using h1
      have e2 : (hi == 0) = false := by simpa using h1
      go_enter Tryz.func59, Tryz.ntmps59
      go_wp2_with fail
      go_ret
      exact ⟨ret_eq HF.out.symm, HB.out⟩
  · have HF : Hid (addrCode true hi lo = 0) := Lib.hid (by rw [hfin]; simp)
    clear hfin
    go_enter Tryz.func59, Tryz.ntmps59
    go_wp2_with fail
    go_ret
    exact ⟨ret_eq HF.out.symm, HB.out⟩
set_option maxRecDepth 100000 in
set_option maxHeartbeats 400000 in
theorem addrFault_any (six : Bool) (hi lo : Int) (w : World) (h0 : 0 ≤ hi) :
    Calls Tryz.prog 23 #[.agg #[.bool six, .int .u64 hi, .int .u64 lo]] w fun e w' => e = .returned (.int .i64 (addrCode six hi lo)) ∧ Below w.heap.size w w' := by
  have hB : Below w.heap.size w (w.alloc (.cells #[.bool six, .int .u64 hi, .int .u64 lo] 28)) := (Below.refl _ _).alloc (Nat.le_refl _) _
  have HB := Lib.hid hB
  clear hB
  have hfin : addrCode six hi lo = addrCode six hi lo := rfl
  conv at hfin => rhs; unfold addrCode
  cases six
  · by_cases h1 : hi = 0
    · subst h1
      by_cases h2 : 4294967296 ≤ lo
      · have HF : Hid (addrCode false 0 lo = 3) := Lib.hid (by rw [hfin]; simp [h2])
        clear hfin
        go_enter Tryz.func23, Tryz.ntmps23
        go_wp2_with fail
        go_ret
        exact ⟨ret_eq HF.out.symm, HB.out⟩
      · have HF : Hid (addrCode false 0 lo = 0) := Lib.hid (by rw [hfin]; simp [h2])
        clear hfin
        go_enter Tryz.func23, Tryz.ntmps23
        go_wp2_with fail
        go_ret
        exact ⟨ret_eq HF.out.symm, HB.out⟩
    · have HF : Hid (addrCode false hi lo = 3) := Lib.hid (by rw [hfin]; simp [h1])
      clear hfin
      have e1 : decide (hi > 0) = true := by simp; omega
      go_enter Tryz.func23, Tryz.ntmps23
      go_wp2_with fail
      go_ret
      exact ⟨ret_eq HF.out.symm, HB.out⟩
  · have HF : Hid (addrCode true hi lo = 0) := Lib.hid (by rw [hfin]; simp)
    clear hfin
    go_enter Tryz.func23, Tryz.ntmps23
    go_wp2_with fail
    go_ret
    exact ⟨ret_eq HF.out.symm, HB.out⟩
end Go.Proofs.YtphjgjcbolmdiaaGreatDoor
