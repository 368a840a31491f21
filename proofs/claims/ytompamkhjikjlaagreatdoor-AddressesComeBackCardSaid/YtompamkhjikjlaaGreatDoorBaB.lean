/- strconv.FormatUint at the numbers of a name: base 16 to 15, base 10 to 255. -/
import Derived.Test.YtompamkhjikjlaaGreatDoorBaA
import Derived.Lib.ItoaMem
import Derived.Lib.AppendIntMem
import Derived.Laws.IdiomStrings
import Derived.Laws.BitsAllLaws
import Derived.Laws.ShiftsVarLaws
namespace Go.Proofs.YtompamkhjikjlaaGreatDoor
open Go.RowKit Go.Hw Go.Shelf

/-- The package-level variables that are read. -/
structure NmVars (w : World) : Prop where
  mx : ∃ m, w.cell? ⟨3, 0, none⟩ = some (.int .i64 m)
  tz : w.cell? ⟨7, 15, none⟩ = some (.int .u8 4)
  tab : Lib.TabIs Tryz.prog w "internal/strconv.uint64pow10" .u64 Lib.pow10Tab
theorem tab_below {w w' : World} {B : Nat} (h : Lib.TabIs Tryz.prog w "internal/strconv.uint64pow10" .u64 Lib.pow10Tab) (hb : Below B w w') (hB : w.heap.size ≤ B) : Lib.TabIs Tryz.prog w' "internal/strconv.uint64pow10" .u64 Lib.pow10Tab := by
  unfold Lib.TabIs World.var? at *
  cases hg : Tryz.prog.globalNamed "internal/strconv.uint64pow10" with
  | none => simp [hg] at h
  | some g =>
    simp only [hg, Option.bind_some] at h ⊢
    have hlt : g < w.heap.size := by
      rcases Nat.lt_or_ge g w.heap.size with h' | h'
      · exact h'
      · rw [Array.getElem?_eq_none h'] at h; simp at h
    rw [hb.block g (by omega)]
    exact h
theorem NmVars.below {w w' : World} {B : Nat} (h : NmVars w) (hb : Below B w w') (hB : w.heap.size ≤ B) : NmVars w' where
  mx := by
    obtain ⟨m, hm⟩ := h.mx
    exact ⟨m, (hb.cell (by have := World.block_lt_of_cell? _ _ hm; exact Nat.lt_of_lt_of_le this hB)).trans hm⟩
  tz := (hb.cell (by have := World.block_lt_of_cell? _ _ h.tz; exact Nat.lt_of_lt_of_le this hB)).trans h.tz
  tab := tab_below h.tab hb hB

theorem isPow_any (w : World) : Calls Tryz.prog 111 #[.int .i64 16] w fun e w' => e = .returned (.bool true) ∧ w = w' := by
  have hb : bits BinOp.and IntKind.i64 16 15 = 0 := by decide
  have hc : (bits BinOp.and IntKind.i64 16 15 == 0) = true := by decide
  go_enter Tryz.func111, Tryz.ntmps111
  go_wp2_with fail
  go_ret
  exact ⟨rfl, rfl⟩
theorem tz64_any (w : World) (h : w.cell? ⟨7, 15, none⟩ = some (.int .u8 4)) : Calls Tryz.prog 133 #[.int .u64 16] w fun e w' => e = .returned (.int .i64 4) ∧ w = w' := by
  have hb : bits BinOp.and IntKind.u64 16 (IntKind.u64.wrap (-16)) = 16 := by decide
  have hc : IntKind.u64.wrap (16 * 285870213051353865) = 4573923408821661840 := by decide
  have hd : (4573923408821661840 : Int) / 288230376151711744 = 15 := by decide
  have he : Int.toNat (4573923408821661840 / 288230376151711744) = 15 := by decide
  go_enter Tryz.func133, Tryz.ntmps133
  go_wp2_with fail
  go_ret
  exact ⟨rfl, rfl⟩
theorem tz_any (w : World) (h : w.cell? ⟨7, 15, none⟩ = some (.int .u8 4)) : Calls Tryz.prog 112 #[.int .u64 16] w fun e w' => e = .returned (.int .i64 4) ∧ w = w' := by
  have h1 := tz64_any w h
  go_enter Tryz.func112, Tryz.ntmps112
  go_wp2_with fail
  refine h1.mono ?_
  rintro e w' ⟨rfl, rfl⟩
  go_wp2_with fail
  go_ret
  exact ⟨rfl, rfl⟩
theorem dig_small : ∀ u : Fin 16, ((⟨#[48, 49, 50, 51, 52, 53, 54, 55, 56, 57, 97, 98, 99, 100, 101, 102, 103, 104, 105, 106, 107, 108, 109, 110, 111, 112, 113, 114, 115, 116, 117, 118, 119, 120, 121, 122]⟩ : ByteArray)[u.val]'(Nat.lt_trans u.isLt (by decide))).toNat = (hexB u.val).toNat := by decide +kernel
set_option maxRecDepth 100000 in
set_option maxHeartbeats 1000000 in
theorem formatBits_any (v : Nat) (hv : v < 16) (w : World) (h : w.cell? ⟨7, 15, none⟩ = some (.int .u8 4)) :
    Calls Tryz.prog 81 #[.slice none 0 0, .int .u64 v, .int .i64 16, .bool false, .bool false] w fun e w' => e = .returned (.tuple #[.slice none 0 0, .string (toB [hexB v])]) ∧ Below w.heap.size w w' := by
  have hlt := World.block_lt_of_cell? _ _ h
  have hlt' : 7 < w.heap.size := hlt
  go_enter Tryz.func81, Tryz.ntmps81
  go_wp2_with fail
  have f0 := heap_alloc_new w (.cells Tryz.zeroCells160 160)
  have hB : Below w.heap.size w (w.alloc (.cells Tryz.zeroCells160 160)) := (Below.refl _ _).alloc (Nat.le_refl _) _
  have HB := Lib.hid hB
  generalize hW : World.alloc _ _ = W at f0 HB ⊢
  have g0 : W.cell? ⟨w.heap.size, 64, none⟩ = some (.int .u8 0) := by simp only [World.cell?, f0]; exact (show Tryz.zeroCells160[64]? = some (.int .u8 0) by kernel_rfl)
  have g1 : W.frozen? ⟨w.heap.size, 64, none⟩ = false := by simp [World.frozen?, f0]
  clear f0 hB
  have h2 : W.cell? ⟨7, 15, none⟩ = some (.int .u8 4) := by rw [← hW]; exact (World.cell?_alloc_lt _ _ ⟨_, _, none⟩ hlt').trans h
  refine (isPow_any W).mono ?_
  rintro e w1 ⟨rfl, rfl⟩
  go_wp2_with fail
  refine (tz_any W h2).mono ?_
  rintro e w1 ⟨rfl, rfl⟩
  go_wp2_with fail
  have hd : decide (16 ≤ (v : Int)) = false := by simp; omega
  have hv36 : (v : Int) < 36 := by omega
  have hdig : ((⟨#[48, 49, 50, 51, 52, 53, 54, 55, 56, 57, 97, 98, 99, 100, 101, 102, 103, 104, 105, 106, 107, 108, 109, 110, 111, 112, 113, 114, 115, 116, 117, 118, 119, 120, 121, 122]⟩ : ByteArray)[v]'(Nat.lt_trans hv (by decide)) |>.toNat) = (hexB v).toNat := dig_small ⟨v, hv⟩
  have hcv : (convert 91 9 (.slice (some ⟨w.heap.size, 64, none⟩) 1 1)).run Tryz.prog (W.setCell ⟨w.heap.size, 64, none⟩ (.int .u8 ((hexB v).toNat : Int))) = .ok (.string (toB [hexB v])) (W.setCell ⟨w.heap.size, 64, none⟩ (.int .u8 ((hexB v).toNat : Int))) := run_convert_bytes_back (P := Tryz.prog) (W.setCell ⟨w.heap.size, 64, none⟩ (.int .u8 ((hexB v).toNat : Int))) 91 9 5 ⟨w.heap.size, 64, none⟩ 1 [hexB v] Tryz.underlying91 Tryz.underlying5 Tryz.underlying9 (fun j hj => by
    obtain rfl : j = 0 := by simpa using hj
    exact World.cell?_setCell_same _ _ _ g0)
  clear hW
  refine wp_loop_rounds 1 ?_
  rw [rounds_succ]
  go_wp2_with fail
  go_ret2
  exact ⟨rfl, HB.out.setCell (Nat.le_refl _) _⟩

set_option maxRecDepth 100000 in
theorem fmtIn16_any (v : Nat) (hv : v < 16) (w : World) (h : w.cell? ⟨7, 15, none⟩ = some (.int .u8 4)) :
    Calls Tryz.prog 41 #[.int .u64 v, .int .i64 16] w fun e w' => e = .returned (.string (toB [hexB v])) ∧ Below w.heap.size w w' := by
  have h1 := formatBits_any v hv w h
  go_enter Tryz.func41, Tryz.ntmps41
  go_wp2_with fail
  refine h1.mono ?_
  rintro e w1 ⟨rfl, hb1⟩
  have HB := Lib.hid hb1
  clear h1 hb1
  go_wp2_with fail
  go_ret
  exact ⟨rfl, HB.out⟩
set_option maxRecDepth 100000 in
theorem fmt16_any (v : Nat) (hv : v < 16) (w : World) (h : w.cell? ⟨7, 15, none⟩ = some (.int .u8 4)) :
    Calls Tryz.prog 22 #[.int .u64 v, .int .i64 16] w fun e w' => e = .returned (.string (toB [hexB v])) ∧ Below w.heap.size w w' := by
  have h1 := fmtIn16_any v hv w h
  go_enter Tryz.func22, Tryz.ntmps22
  go_wp2_with fail
  refine h1.mono ?_
  rintro e w1 ⟨rfl, hb1⟩
  have HB := Lib.hid hb1
  clear h1 hb1
  go_wp2_with fail
  go_ret
  exact ⟨rfl, HB.out⟩

set_option maxRecDepth 100000 in
set_option maxHeartbeats 1000000 in
theorem fmtIn10_any (v : Nat) (hv : v < 256) (w : World) (h : Lib.TabIs Tryz.prog w "internal/strconv.uint64pow10" .u64 Lib.pow10Tab) :
    Calls Tryz.prog 41 #[.int .u64 v, .int .i64 10] w fun e w' => e = .returned (.string (toB (Lib.decDigits v))) ∧ Below w.heap.size w w' := by
  by_cases hs : v < 100
  · have h1 := Tryz.internal_strconv_small v hs w
    have hd : decide ((v : Int) < 100) = true := by simp; omega
    have s0 : IntKind.i64.wrap (v : Int) = (v : Int) := IntWalk.i64_in _ (by omega)
    clear hs
    go_enter Tryz.func41, Tryz.ntmps41
    go_wp2_with fail
    refine h1.mono ?_
    rintro e w1 ⟨rfl, rfl⟩
    go_wp2_with fail
    go_ret
    exact ⟨rfl, Below.refl _ _⟩
  · have hd : decide ((v : Int) < 100) = false := by simp; omega
    have hn3 : Lib.nDigits v = 3 := by
      rw [Lib.nDigits_big (by omega), Lib.nDigits_big (by omega), Lib.nDigits_small (by omega)]
    have hal : Tryz.prog.arrayLen 138 = 24 := by simp [Program.arrayLen, Tryz.underlying138]
    have hsl : ∀ W, (Instr.sliceAt 138 (.pointer (some ⟨w.heap.size, 0, none⟩)) none (some (.int .i64 3)) none).run Tryz.prog W = .ok (.slice (some ⟨w.heap.size, 0, none⟩) 3 24) W := fun W => by
      rw [run_sliceAt_array_h W 138 ⟨w.heap.size, 0, none⟩ (by simp [Program.arrayLen, Program.elem, Tryz.underlying138]) .i64 3 (by omega) (by rw [hal]; omega)]
      go_simp
    have hH0 := Lib.holds_zero0 w 138 3 (by omega)
    have hfmt := Tryz.internal_strconv_formatBase10 w.heap.size 0 24 v (Array.replicate 3 0) (w.alloc (.cells Lib.zeros24 138)) hH0 (by rw [Array.size_replicate]; omega) (by omega) (by rw [Array.size_replicate]; omega)
    rw [Array.size_replicate] at hfmt
    have hnd := Tryz.internal_strconv_numDigits v (by omega) (by omega) (w.alloc (.cells Lib.zeros24 138)) (Lib.tabIs_alloc h _)
    rw [hn3] at hnd
    have HH0 := Lib.hid hH0
    have HN3 := Lib.hid hn3
    clear hH0 hal hn3
    go_enter Tryz.func41, Tryz.ntmps41
    go_wp2_with fail
    refine hnd.mono ?_
    rintro e w1 ⟨rfl, rfl⟩
    go_wp2_with fail
    refine hfmt.mono ?_
    rintro e w1 ⟨rfl, k, v', dk, rfl, hF⟩
    rw [← HN3.out] at hF
    have hcv : (convert 91 9 (.slice (some ⟨w.heap.size, 0, none⟩) 3 24)).run Tryz.prog ((Sort.putRow (fun (b : UInt8) => Value.int .u8 (b.toNat : Int)) (w.alloc (.cells Lib.zeros24 138)) w.heap.size 0 dk).drewN k) = .ok (.string (toB (Lib.decDigits v))) ((Sort.putRow (fun (b : UInt8) => Value.int .u8 (b.toNat : Int)) (w.alloc (.cells Lib.zeros24 138)) w.heap.size 0 dk).drewN k) := by
      have h := run_convert_bytes_back (P := Tryz.prog) ((Sort.putRow (fun (b : UInt8) => Value.int .u8 (b.toNat : Int)) (w.alloc (.cells Lib.zeros24 138)) w.heap.size 0 dk).drewN k) 91 9 5 ⟨w.heap.size, 0, none⟩ 24 (Lib.decDigits v) Tryz.underlying91 Tryz.underlying5 Tryz.underlying9 (fun j hj => by
        rw [Lib.row_is_numeral hF j hj, Lib.add_plain, World.cell?_drewN]
        exact Sort.cell?_putRow (fun (b : UInt8) => Value.int .u8 (b.toNat : Int)) _ w.heap.size 0 _ dk HH0.out (by rw [hF.size, Array.size_replicate, HN3.out]) j (by rw [hF.size]; rw [Lib.decDigits_length] at hj; exact hj))
      rw [Lib.decDigits_length, HN3.out] at h
      exact h
    obtain ⟨os, eo⟩ := Lib.fin_at w (.cells Lib.zeros24 138) dk k 0
    have hbb : Below w.heap.size w ((Sort.putRow (fun (b : UInt8) => Value.int .u8 (b.toNat : Int)) (w.alloc (.cells Lib.zeros24 138)) w.heap.size 0 dk).drewN k) := by rw [eo]; exact Lib.below_grow w.heap.size w (Nat.le_refl _) k os
    have HBB := Lib.hid hbb
    generalize (Sort.putRow (fun (b : UInt8) => Value.int .u8 (b.toNat : Int)) (w.alloc (.cells Lib.zeros24 138)) w.heap.size 0 dk).drewN k = W2 at hcv HBB ⊢
    clear eo hfmt hnd hbb hF
    go_wp2_with fail
    go_ret
    exact ⟨rfl, HBB.out⟩
set_option maxRecDepth 100000 in
theorem fmt10_any (v : Nat) (hv : v < 256) (w : World) (h : Lib.TabIs Tryz.prog w "internal/strconv.uint64pow10" .u64 Lib.pow10Tab) :
    Calls Tryz.prog 22 #[.int .u64 v, .int .i64 10] w fun e w' => e = .returned (.string (toB (Lib.decDigits v))) ∧ Below w.heap.size w w' := by
  have h1 := fmtIn10_any v hv w h
  go_enter Tryz.func22, Tryz.ntmps22
  go_wp2_with fail
  refine h1.mono ?_
  rintro e w1 ⟨rfl, hb1⟩
  have HB := Lib.hid hb1
  clear h1 hb1
  go_wp2_with fail
  go_ret
  exact ⟨rfl, HB.out⟩
end Go.Proofs.YtompamkhjikjlaaGreatDoor
