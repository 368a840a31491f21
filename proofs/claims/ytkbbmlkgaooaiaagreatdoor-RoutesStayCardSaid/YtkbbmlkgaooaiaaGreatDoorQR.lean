/- slices.Equal of health, at rows alike. slices.Equal of links, at rows alike. slices.Equal of routers, at rows alike. -/
import Derived.Test.YtkbbmlkgaooaiaaGreatDoorRwB
import Derived.Test.YtkbbmlkgaooaiaaGreatDoorDrC
import Derived.Test.YtkbbmlkgaooaiaaGreatDoorGrB
namespace Go.Proofs.YtkbbmlkgaooaiaaGreatDoor
open Go.RowKit Go.Hw

def qhC (e : Hl) : List Value := [.int .i64 e.at_, .string e.node, .bool e.up]
theorem qhC_len (e : Hl) : (qhC e).length = 3 := rfl
abbrev qhAt (w : World) (A : Option Addr) (L : List Hl) : Prop := RwAt qhC 3 noHl w A L
abbrev qhOwn (w : World) (base : Nat) (v : Value) (L : List Hl) : Prop := w.ownsRow base 58 3 v L.length (rwC qhC L)
theorem qh_cells {w : World} {g o : Nat} {e : Hl} (h : RwCells w g o (qhC e)) : w.cell? ⟨g, o, none⟩ = some (.int .i64 e.at_) ∧ w.cell? ⟨g, o + 1, none⟩ = some (.string e.node) ∧ w.cell? ⟨g, o + 2, none⟩ = some (.bool e.up) := ⟨h 0 _ rfl, h 1 _ rfl, h 2 _ rfl⟩

/-- What is asked of a closure over these structs. -/
def qhPred (g : Nat) (lb : Array Value) (p : Hl → Bool) (L : List Hl) (w : World) : Prop :=
  ∀ (W : World) (e : Hl), e ∈ L → Below w.heap.size w W → Calls Tryz.prog g (#[.agg #[.int .i64 e.at_, .string e.node, .bool e.up]] ++ lb) W fun en w' => en = .returned (.bool (p e)) ∧ Below W.heap.size W w'

theorem qh_eqrun (d : Nat) (r : Hl) (w : World) : (Op.equalIn (d + 2) 58 (.agg #[.int .i64 r.at_, .string r.node, .bool r.up]) (.agg #[.int .i64 r.at_, .string r.node, .bool r.up])).run Tryz.prog w = .ok true w := by
  have u1 := Tryz.underlying9
  have u2 := Tryz.underlying3
  have hA : Tryz.prog.underlying 58 = some (.struct (Tryz.prog.fieldsOf 58)) := by kernel_rfl
  have pA : Tryz.prog.stoodInHeld 58 = false := by kernel_rfl
  have u3 := Tryz.underlying4
  rw [run_equalIn_agg w (d + 1) 58 _ _ hA pA]
  simp only [Program.fieldsOf, Tryz.underlying58]
  go_simp
theorem qh_guard : Tryz.prog.eqGuardType Tryz.prog.depth 58 = false := by kernel_rfl
set_option maxRecDepth 100000 in
set_option maxHeartbeats 1000000 in
theorem qh_equal (A B : Option Addr) (ca cb : Nat) (L : List Hl) (w : World) (hA : qhAt w A L) (hB : qhAt w B L) (hl : L.length ≤ 1000000) :
    Calls Tryz.prog 14 #[.slice A L.length ca, .slice B L.length cb] w fun e w' => e = .returned (.bool true) ∧ Below w.heap.size w w' := by
  go_enter Tryz.func14, Tryz.ntmps14
  go_wp2_with fail
  go_loopw [13] (fun v wr => ∃ k : Nat, k ≤ L.length ∧ v = .int .i64 k ∧ Below w.heap.size w wr) (fun v _ => L.length - (intOf v).toNat)
  case atStart => exact ⟨0, Nat.zero_le _, rfl, Below.refl _ _⟩
  case round =>
    obtain ⟨k, hk, rfl, hb⟩ := hrel
    by_cases hlt : k < L.length
    · obtain ⟨g, off, rfl, hgB, hcc⟩ := (hA.below hb) k hlt
      obtain ⟨g2, off2, rfl, hgB2, hcc2⟩ := (hB.below hb) k hlt
      obtain ⟨c0, c1, c2⟩ := qh_cells hcc
      obtain ⟨d0, d1, d2⟩ := qh_cells hcc2
      generalize L.getD k noHl = x at *
      have hgd := qh_guard
      have hrq := fun W => qh_eqrun 9998 x W
      have HB := Lib.hid hb
      have hd : decide ((k : Int) < (L.length : Int)) = true := by simp; omega
      clear hcc hcc2 hb hA hB
      go_wp2_with fail
      go_quiet (fail)
      go_wp2_with fail
      go_roundw
      case rel => exact ⟨k + 1, by omega, by go_num, ⟨HB.out.os, HB.out.tape, HB.out.output, HB.out.size, HB.out.block⟩⟩
      case measure => simp [intOf]; omega
    · have : k = L.length := by omega
      subst this
      go_wp2_with fail
      go_ret
      exact ⟨rfl, hb⟩

end Go.Proofs.YtkbbmlkgaooaiaaGreatDoor

namespace Go.Proofs.YtkbbmlkgaooaiaaGreatDoor
open Go.RowKit Go.Hw

def qlC (e : Lk) : List Value := [.string e.a, .string e.b, .int .i64 e.m]
theorem qlC_len (e : Lk) : (qlC e).length = 3 := rfl
abbrev qlAt (w : World) (A : Option Addr) (L : List Lk) : Prop := RwAt qlC 3 noLk w A L
abbrev qlOwn (w : World) (base : Nat) (v : Value) (L : List Lk) : Prop := w.ownsRow base 64 3 v L.length (rwC qlC L)
theorem ql_cells {w : World} {g o : Nat} {e : Lk} (h : RwCells w g o (qlC e)) : w.cell? ⟨g, o, none⟩ = some (.string e.a) ∧ w.cell? ⟨g, o + 1, none⟩ = some (.string e.b) ∧ w.cell? ⟨g, o + 2, none⟩ = some (.int .i64 e.m) := ⟨h 0 _ rfl, h 1 _ rfl, h 2 _ rfl⟩

/-- What is asked of a closure over these structs. -/
def qlPred (g : Nat) (lb : Array Value) (p : Lk → Bool) (L : List Lk) (w : World) : Prop :=
  ∀ (W : World) (e : Lk), e ∈ L → Below w.heap.size w W → Calls Tryz.prog g (#[.agg #[.string e.a, .string e.b, .int .i64 e.m]] ++ lb) W fun en w' => en = .returned (.bool (p e)) ∧ Below W.heap.size W w'

theorem ql_eqrun (d : Nat) (r : Lk) (w : World) : (Op.equalIn (d + 2) 64 (.agg #[.string r.a, .string r.b, .int .i64 r.m]) (.agg #[.string r.a, .string r.b, .int .i64 r.m])).run Tryz.prog w = .ok true w := by
  have u1 := Tryz.underlying9
  have u2 := Tryz.underlying3
  have hA : Tryz.prog.underlying 64 = some (.struct (Tryz.prog.fieldsOf 64)) := by kernel_rfl
  have pA : Tryz.prog.stoodInHeld 64 = false := by kernel_rfl

  rw [run_equalIn_agg w (d + 1) 64 _ _ hA pA]
  simp only [Program.fieldsOf, Tryz.underlying64]
  go_simp
theorem ql_guard : Tryz.prog.eqGuardType Tryz.prog.depth 64 = false := by kernel_rfl
set_option maxRecDepth 100000 in
set_option maxHeartbeats 1000000 in
theorem ql_equal (A B : Option Addr) (ca cb : Nat) (L : List Lk) (w : World) (hA : qlAt w A L) (hB : qlAt w B L) (hl : L.length ≤ 1000000) :
    Calls Tryz.prog 16 #[.slice A L.length ca, .slice B L.length cb] w fun e w' => e = .returned (.bool true) ∧ Below w.heap.size w w' := by
  go_enter Tryz.func16, Tryz.ntmps16
  go_wp2_with fail
  go_loopw [13] (fun v wr => ∃ k : Nat, k ≤ L.length ∧ v = .int .i64 k ∧ Below w.heap.size w wr) (fun v _ => L.length - (intOf v).toNat)
  case atStart => exact ⟨0, Nat.zero_le _, rfl, Below.refl _ _⟩
  case round =>
    obtain ⟨k, hk, rfl, hb⟩ := hrel
    by_cases hlt : k < L.length
    · obtain ⟨g, off, rfl, hgB, hcc⟩ := (hA.below hb) k hlt
      obtain ⟨g2, off2, rfl, hgB2, hcc2⟩ := (hB.below hb) k hlt
      obtain ⟨c0, c1, c2⟩ := ql_cells hcc
      obtain ⟨d0, d1, d2⟩ := ql_cells hcc2
      generalize L.getD k noLk = x at *
      have hgd := ql_guard
      have hrq := fun W => ql_eqrun 9998 x W
      have HB := Lib.hid hb
      have hd : decide ((k : Int) < (L.length : Int)) = true := by simp; omega
      clear hcc hcc2 hb hA hB
      go_wp2_with fail
      go_quiet (fail)
      go_wp2_with fail
      go_roundw
      case rel => exact ⟨k + 1, by omega, by go_num, ⟨HB.out.os, HB.out.tape, HB.out.output, HB.out.size, HB.out.block⟩⟩
      case measure => simp [intOf]; omega
    · have : k = L.length := by omega
      subst this
      go_wp2_with fail
      go_ret
      exact ⟨rfl, hb⟩

end Go.Proofs.YtkbbmlkgaooaiaaGreatDoor

namespace Go.Proofs.YtkbbmlkgaooaiaaGreatDoor
open Go.RowKit Go.Hw

def qrC (e : Rt) : List Value := [.bool e.six, .int .u64 e.hi, .int .u64 e.lo, .int .i64 e.bits, .string e.node, .int .i64 e.weight]
theorem qrC_len (e : Rt) : (qrC e).length = 6 := rfl
abbrev qrAt (w : World) (A : Option Addr) (L : List Rt) : Prop := RwAt qrC 6 noRt w A L
abbrev qrOwn (w : World) (base : Nat) (v : Value) (L : List Rt) : Prop := w.ownsRow base 55 6 v L.length (rwC qrC L)
theorem qr_cells {w : World} {g o : Nat} {e : Rt} (h : RwCells w g o (qrC e)) : w.cell? ⟨g, o, none⟩ = some (.bool e.six) ∧ w.cell? ⟨g, o + 1, none⟩ = some (.int .u64 e.hi) ∧ w.cell? ⟨g, o + 2, none⟩ = some (.int .u64 e.lo) ∧ w.cell? ⟨g, o + 3, none⟩ = some (.int .i64 e.bits) ∧ w.cell? ⟨g, o + 4, none⟩ = some (.string e.node) ∧ w.cell? ⟨g, o + 5, none⟩ = some (.int .i64 e.weight) := ⟨h 0 _ rfl, h 1 _ rfl, h 2 _ rfl, h 3 _ rfl, h 4 _ rfl, h 5 _ rfl⟩

/-- What is asked of a closure over these structs. -/
def qrPred (g : Nat) (lb : Array Value) (p : Rt → Bool) (L : List Rt) (w : World) : Prop :=
  ∀ (W : World) (e : Rt), e ∈ L → Below w.heap.size w W → Calls Tryz.prog g (#[.agg #[.bool e.six, .int .u64 e.hi, .int .u64 e.lo, .int .i64 e.bits, .string e.node, .int .i64 e.weight]] ++ lb) W fun en w' => en = .returned (.bool (p e)) ∧ Below W.heap.size W w'

theorem qr_eqrun (d : Nat) (r : Rt) (w : World) : (Op.equalIn (d + 4) 55 (.agg #[.bool r.six, .int .u64 r.hi, .int .u64 r.lo, .int .i64 r.bits, .string r.node, .int .i64 r.weight]) (.agg #[.bool r.six, .int .u64 r.hi, .int .u64 r.lo, .int .i64 r.bits, .string r.node, .int .i64 r.weight])).run Tryz.prog w = .ok true w := by
  have u1 := Tryz.underlying9
  have u2 := Tryz.underlying3
  have hA : Tryz.prog.underlying 55 = some (.struct (Tryz.prog.fieldsOf 55)) := by kernel_rfl
  have pA : Tryz.prog.stoodInHeld 55 = false := by kernel_rfl
  have hx := run_eq_pf d r.six r.six r.hi r.hi r.lo r.lo r.bits r.bits
  rw [run_equalIn_agg w (d + 3) 55 _ _ hA pA]
  simp only [Program.fieldsOf, Tryz.underlying55]
  go_simp
theorem qr_guard : Tryz.prog.eqGuardType Tryz.prog.depth 55 = false := by kernel_rfl
set_option maxRecDepth 100000 in
set_option maxHeartbeats 1000000 in
theorem qr_equal (A B : Option Addr) (ca cb : Nat) (L : List Rt) (w : World) (hA : qrAt w A L) (hB : qrAt w B L) (hl : L.length ≤ 1000000) :
    Calls Tryz.prog 13 #[.slice A L.length ca, .slice B L.length cb] w fun e w' => e = .returned (.bool true) ∧ Below w.heap.size w w' := by
  go_enter Tryz.func13, Tryz.ntmps13
  go_wp2_with fail
  go_loopw [13] (fun v wr => ∃ k : Nat, k ≤ L.length ∧ v = .int .i64 k ∧ Below w.heap.size w wr) (fun v _ => L.length - (intOf v).toNat)
  case atStart => exact ⟨0, Nat.zero_le _, rfl, Below.refl _ _⟩
  case round =>
    obtain ⟨k, hk, rfl, hb⟩ := hrel
    by_cases hlt : k < L.length
    · obtain ⟨g, off, rfl, hgB, hcc⟩ := (hA.below hb) k hlt
      obtain ⟨g2, off2, rfl, hgB2, hcc2⟩ := (hB.below hb) k hlt
      obtain ⟨c0, c1, c2, c3, c4, c5⟩ := qr_cells hcc
      obtain ⟨d0, d1, d2, d3, d4, d5⟩ := qr_cells hcc2
      generalize L.getD k noRt = x at *
      have hgd := qr_guard
      have hrq := fun W => qr_eqrun 9996 x W
      have HB := Lib.hid hb
      have hd : decide ((k : Int) < (L.length : Int)) = true := by simp; omega
      clear hcc hcc2 hb hA hB
      go_wp2_with fail
      go_quiet (fail)
      go_wp2_with fail
      go_roundw
      case rel => exact ⟨k + 1, by omega, by go_num, ⟨HB.out.os, HB.out.tape, HB.out.output, HB.out.size, HB.out.block⟩⟩
      case measure => simp [intOf]; omega
    · have : k = L.length := by omega
      subst this
      go_wp2_with fail
      go_ret
      exact ⟨rfl, hb⟩

end Go.Proofs.YtkbbmlkgaooaiaaGreatDoor
