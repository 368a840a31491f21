/- strconv.FormatUint at the groups of an address: base 16 to 65535, base 10 to 255. -/
import Derived.Test.YtcicednopgpjfaaGreatDoorAxA
import Derived.Test.YtcicednopgpjfaaGreatDoorReA
import Derived.Test.YtcicednopgpjfaaGreatDoorShelf
import Derived.Lib.Hide
import Derived.Lib.ItoaMem
import Derived.Lib.AppendIntMem
import Derived.Laws.IdiomStrings
import Derived.Laws.BitsAllLaws
import Derived.Laws.ShiftsVarLaws
import Derived.OwnWalk
namespace Go.Proofs.YtcicednopgpjfaaGreatDoor
open Go.RowKit Go.Hw Go.Shelf

/-- The package-level variables that are read. -/
structure NmVars (w : World) : Prop where
  mx : ∃ m, w.cell? ⟨0, 0, none⟩ = some (.int .i64 m)
  tz : w.cell? ⟨7, 15, none⟩ = some (.int .u8 4)
  tab : Lib.TabIs Tryz.prog w "internal/strconv.uint64pow10" .u64 Lib.pow10Tab
theorem tab_below {w w' : World} {B : Nat} (h : Lib.TabIs Tryz.prog w "internal/strconv.uint64pow10" .u64 Lib.pow10Tab) (hb : Below B w w') (hB : w.heap.size ≤ B) : Lib.TabIs Tryz.prog w' "internal/strconv.uint64pow10" .u64 Lib.pow10Tab := by
  unfold Lib.TabIs World.var? at *
  cases hg : Tryz.prog.globalNamed "internal/strconv.uint64pow10" with
  | none => simp [hg] at h
  | some g =>
    simp only [hg, Option.bind_some] at h ⊢
    have hlt : g < w.heap.size := by
      rcases Nat.lt_or_ge g w.heap.size with h' | h'
      · exact h'
      · rw [Array.getElem?_eq_none h'] at h; simp at h
    rw [hb.block g (by omega)]
    exact h
theorem NmVars.below {w w' : World} {B : Nat} (h : NmVars w) (hb : Below B w w') (hB : w.heap.size ≤ B) : NmVars w' where
  mx := by
    obtain ⟨m, hm⟩ := h.mx
    exact ⟨m, (hb.cell (by have := World.block_lt_of_cell? _ _ hm; exact Nat.lt_of_lt_of_le this hB)).trans hm⟩
  tz := (hb.cell (by have := World.block_lt_of_cell? _ _ h.tz; exact Nat.lt_of_lt_of_le this hB)).trans h.tz
  tab := tab_below h.tab hb hB
theorem isPow_any (w : World) : Calls Tryz.prog 193 #[.int .i64 16] w fun e w' => e = .returned (.bool true) ∧ w = w' := by
  have hb : bits BinOp.and IntKind.i64 16 15 = 0 := by decide
  have hc : (bits BinOp.and IntKind.i64 16 15 == 0) = true := by decide
  go_enter Tryz.func193, Tryz.ntmps193
  go_wp2_with fail
  go_ret
  exact ⟨rfl, rfl⟩
theorem tz64_any (w : World) (h : w.cell? ⟨7, 15, none⟩ = some (.int .u8 4)) : Calls Tryz.prog 240 #[.int .u64 16] w fun e w' => e = .returned (.int .i64 4) ∧ w = w' := by
  have hb : bits BinOp.and IntKind.u64 16 (IntKind.u64.wrap (-16)) = 16 := by decide
  have hc : IntKind.u64.wrap (16 * 285870213051353865) = 4573923408821661840 := by decide
  have hd : (4573923408821661840 : Int) / 288230376151711744 = 15 := by decide
  have he : Int.toNat (4573923408821661840 / 288230376151711744) = 15 := by decide
  go_enter Tryz.func240, Tryz.ntmps240
  go_wp2_with fail
  go_ret
  exact ⟨rfl, rfl⟩
theorem tz_any (w : World) (h : w.cell? ⟨7, 15, none⟩ = some (.int .u8 4)) : Calls Tryz.prog 194 #[.int .u64 16] w fun e w' => e = .returned (.int .i64 4) ∧ w = w' := by
  have h1 := tz64_any w h
  go_enter Tryz.func194, Tryz.ntmps194
  go_wp2_with fail
  refine h1.mono ?_
  rintro e w' ⟨rfl, rfl⟩
  go_wp2_with fail
  go_ret
  exact ⟨rfl, rfl⟩
theorem dig_small : ∀ u : Fin 16, ((⟨#[48, 49, 50, 51, 52, 53, 54, 55, 56, 57, 97, 98, 99, 100, 101, 102, 103, 104, 105, 106, 107, 108, 109, 110, 111, 112, 113, 114, 115, 116, 117, 118, 119, 120, 121, 122]⟩ : ByteArray)[u.val]'(Nat.lt_trans u.isLt (by decide))).toNat = (hexB u.val).toNat := by decide +kernel
theorem hexL_step {u : Nat} (h : 16 ≤ u) (h2 : u < 65536) : hexL u = hexL (u / 16) ++ [hexB (u % 16)] := by
  unfold hexL
  rw [if_neg (by omega)]
  by_cases h3 : u < 256
  · rw [if_pos h3, if_pos (show u / 16 < 16 by omega)]; rfl
  rw [if_neg h3, if_neg (show ¬ u / 16 < 16 by omega)]
  by_cases h4 : u < 4096
  · rw [if_pos h4, if_pos (show u / 16 < 256 by omega), show u / 16 / 16 = u / 256 by omega]; rfl
  · rw [if_neg h4, if_neg (show ¬ u / 16 < 256 by omega), if_pos (show u / 16 < 4096 by omega), show u / 16 / 256 = u / 4096 by omega, show u / 16 / 16 % 16 = u / 256 % 16 by omega]; rfl
theorem hexL_one {u : Nat} (h : u < 16) : hexL u = [hexB u] := by unfold hexL; rw [if_pos h]
/-- Where formatBits stands: the number that is left, what is laid at the end of the array. -/
def FbI (w : World) (v : Nat) (v1 v13 : Value) (wr : World) : Prop :=
  ∃ (k u : Nat) (D : List UInt8) (cs : Array Value), k ≤ 3 ∧ D.length = k ∧ v1 = .int .u64 u ∧ v13 = .int .i64 (65 - (k : Int)) ∧ u < 16 ^ (4 - k) ∧ hexL v = hexL u ++ D ∧ cs.size = 65 ∧ (∀ j c, D[j]? = some c → cs[65 - k + j]? = some (.int .u8 (c.toNat : Int))) ∧
    wr.heap[w.heap.size]? = some (.cells cs 265 (0, 0)) ∧ Below w.heap.size w wr
theorem fb_conv {W : World} {B k : Nat} {cs : Array Value} {l : List UInt8} {T : TypeId} (hk : k ≤ 3) (hl : l.length = k + 1) (hc : ∀ j c, l[j]? = some c → cs[65 - (k + 1) + j]? = some (.int .u8 (c.toNat : Int))) (hb : W.heap[B]? = some (.cells cs T (0, 0))) :
    (convert 91 9 (.slice (some ⟨B, 64 - k, none⟩) (k + 1) (k + 1))).run Tryz.prog W = .ok (.string (toB l)) W := by
  have h := run_convert_bytes_back (P := Tryz.prog) W 91 9 5 ⟨B, 64 - k, none⟩ (k + 1) l Tryz.underlying91 Tryz.underlying5 Tryz.underlying9 (fun j hj => by
    rw [Lib.add_plain]
    refine (cell_of hb _).trans ?_
    rw [show 64 - k + j = 65 - (k + 1) + j by omega]
    exact hc j _ (List.getElem?_eq_getElem hj))
  rw [hl] at h
  exact h
theorem fb_store {wr : World} {B k : Nat} {cs : Array Value} {D : List UInt8} {T : TypeId} {d : UInt8} (hk : k ≤ 3) (hD : D.length = k) (hs : cs.size = 65) (hc : ∀ j c, D[j]? = some c → cs[65 - k + j]? = some (.int .u8 (c.toNat : Int))) (hb : wr.heap[B]? = some (.cells cs T (0, 0))) :
    ∃ cs' : Array Value, cs'.size = 65 ∧ (∀ j c, (d :: D)[j]? = some c → cs'[65 - (k + 1) + j]? = some (.int .u8 (c.toNat : Int))) ∧ (wr.setCell ⟨B, 64 - k, none⟩ (.int .u8 (d.toNat : Int))).heap[B]? = some (.cells cs' T (0, 0)) := by
  refine ⟨cs.setIfInBounds (64 - k) (.int .u8 (d.toNat : Int)), by simp [hs], fun j c hj => ?_, heap_set hb _ _⟩
  rcases j with _ | j
  · have hj : d = c := by simpa using hj
    subst hj
    rw [show 65 - (k + 1) + 0 = 64 - k by omega, Array.getElem?_setIfInBounds_self_of_lt (by omega)]
  · have := hc j c (by simpa using hj)
    rw [Array.getElem?_setIfInBounds_ne (by omega), show 65 - (k + 1) + (j + 1) = 65 - k + j by omega]
    exact this
set_option maxRecDepth 100000 in
set_option maxHeartbeats 4000000 in
theorem formatBits4 (v : Nat) (hv : v < 65536) (w : World) (h : w.cell? ⟨7, 15, none⟩ = some (.int .u8 4)) :
    Calls Tryz.prog 126 #[.slice none 0 0, .int .u64 v, .int .i64 16, .bool false, .bool false] w fun e w' => e = .returned (.tuple #[.slice none 0 0, .string (toB (hexL v))]) ∧ Below w.heap.size w w' := by
  have hlt := World.block_lt_of_cell? _ _ h
  have hlt' : 7 < w.heap.size := hlt
  go_enter Tryz.func126, Tryz.ntmps126
  go_wp2_with fail
  have f0 := heap_alloc_new w (.cells Tryz.zeroCells265 265)
  have hB : Below w.heap.size w (w.alloc (.cells Tryz.zeroCells265 265)) := (Below.refl _ _).alloc (Nat.le_refl _) _
  generalize hW : World.alloc _ _ = W at f0 hB ⊢
  have h2 : W.cell? ⟨7, 15, none⟩ = some (.int .u8 4) := by rw [← hW]; exact (World.cell?_alloc_lt _ _ ⟨_, _, none⟩ hlt').trans h
  have HI0 : Hid (FbI w v (.int .u64 v) (.int .i64 65) W) := Lib.hid ⟨0, v, [], _, by omega, rfl, rfl, rfl, by omega, by simp, (show Tryz.zeroCells265.size = 65 by kernel_rfl), fun j c hj => by simp at hj, f0, hB⟩
  clear f0 hB hW
  refine (isPow_any W).mono ?_
  rintro e w1 ⟨rfl, rfl⟩
  go_wp2_with fail
  refine (tz_any W h2).mono ?_
  rintro e w1 ⟨rfl, rfl⟩
  clear h2 hlt h
  go_wp2_with fail
  go_loopw [1, 13] (fun v1 v13 wr => FbI w v v1 v13 wr) (fun v1 _ _ => (intOf v1).toNat)
  case atStart => exact HI0.out
  case round =>
    obtain ⟨k, u, D, cs, hk, hD, rfl, rfl, hu, hx, hs, hc, hb, hbl⟩ := hrel
    have hu6 : u < 65536 := Nat.lt_of_lt_of_le hu (by have : 16 ^ (4 - k) ≤ 16 ^ 4 := Nat.pow_le_pow_right (by omega) (by omega); simpa using this)
    have HBL := Lib.hid hbl
    have HX := Lib.hid hx
    have lB : w.heap.size < wr.heap.size := lt_of_block hb
    by_cases h16 : 16 ≤ u
    · have hk2 : k ≤ 2 := by
        rcases Nat.lt_or_ge 2 k with hk3 | hk3
        · exfalso
          have : 4 - k = 1 := by omega
          rw [this] at hu
          omega
        · exact hk3
      have d1 : decide ((16 : Int) ≤ (u : Int)) = true := by simp; omega
      have d2 : decide ((u : Int) ≥ 16) = true := by simp; omega
      have m1 : bits .and .u64 (u : Int) 15 = ((u % 16 : Nat) : Int) := by
        have := u64_and_nat u 15 (by omega) (by omega)
        rw [show u &&& 15 = u % 16 from Nat.and_two_pow_sub_one_eq_mod u 4] at this
        exact this
      obtain ⟨cs', hs', hc', hb'⟩ := fb_store (d := hexB (u % 16)) (by omega) hD hs hc hb
      have hdig : ((⟨#[48, 49, 50, 51, 52, 53, 54, 55, 56, 57, 97, 98, 99, 100, 101, 102, 103, 104, 105, 106, 107, 108, 109, 110, 111, 112, 113, 114, 115, 116, 117, 118, 119, 120, 121, 122]⟩ : ByteArray)[u % 16]'(Nat.lt_trans (Nat.mod_lt u (by omega)) (by decide)) |>.toNat) = (hexB (u % 16)).toNat := dig_small ⟨u % 16, Nat.mod_lt u (by omega)⟩
      have cz : ∃ cv, wr.cell? ⟨w.heap.size, 64 - k, none⟩ = some cv := ⟨cs[64 - k]'(by omega), (cell_of hb _).trans (Array.getElem?_eq_getElem _)⟩
      obtain ⟨cv, c0⟩ := cz
      have z0 : wr.frozen? ⟨w.heap.size, 64 - k, none⟩ = false := by simp [World.frozen?, hb]
      have HH := Lib.hid (And.intro hs' hc')
      have HB' := Lib.hid hb'
      have HD := Lib.hid hD
      clear hs' hc' hb' hs hc hb hD hx hbl
      have hk3 : k = 0 ∨ k = 1 ∨ k = 2 := by omega
      rcases hk3 with rfl | rfl | rfl
      · simp only [Nat.sub_zero, Nat.reducePow] at c0 z0 hu
        go_wp2_with fail
        go_roundw
        case rel => exact ⟨1, u / 16, hexB (u % 16) :: D, cs', by omega, by rw [List.length_cons, HD.out], by simp, by simp, by simp only [Nat.reduceSub, Nat.reducePow] at hu ⊢; omega, by rw [HX.out, hexL_step h16 hu6]; simp, HH.out.1, HH.out.2, HB'.out, HBL.out.setCell (Nat.le_refl _) _⟩
        case measure => simp [intOf]; omega
      · simp only [Nat.reduceSub, Nat.reducePow] at c0 z0 hu
        go_wp2_with fail
        go_roundw
        case rel => exact ⟨2, u / 16, hexB (u % 16) :: D, cs', by omega, by rw [List.length_cons, HD.out], by simp, by simp, by simp only [Nat.reduceSub, Nat.reducePow] at hu ⊢; omega, by rw [HX.out, hexL_step h16 hu6]; simp, HH.out.1, HH.out.2, HB'.out, HBL.out.setCell (Nat.le_refl _) _⟩
        case measure => simp [intOf]; omega
      · simp only [Nat.reduceSub, Nat.reducePow] at c0 z0 hu
        go_wp2_with fail
        go_roundw
        case rel => exact ⟨3, u / 16, hexB (u % 16) :: D, cs', by omega, by rw [List.length_cons, HD.out], by simp, by simp, by simp only [Nat.reduceSub, Nat.reducePow] at hu ⊢; omega, by rw [HX.out, hexL_step h16 hu6]; simp, HH.out.1, HH.out.2, HB'.out, HBL.out.setCell (Nat.le_refl _) _⟩
        case measure => simp [intOf]; omega
    · have d1 : decide ((16 : Int) ≤ (u : Int)) = false := by simp; omega
      have d2 : decide ((u : Int) ≥ 16) = false := by simp; omega
      have d3 : (u : Int) < 36 := by omega
      have hu16 : u < 16 := by omega
      obtain ⟨cs', hs', hc', hb'⟩ := fb_store (d := hexB u) hk hD hs hc hb
      have hdig : ((⟨#[48, 49, 50, 51, 52, 53, 54, 55, 56, 57, 97, 98, 99, 100, 101, 102, 103, 104, 105, 106, 107, 108, 109, 110, 111, 112, 113, 114, 115, 116, 117, 118, 119, 120, 121, 122]⟩ : ByteArray)[u]'(Nat.lt_trans hu16 (by decide)) |>.toNat) = (hexB u).toNat := dig_small ⟨u, hu16⟩
      have hcv := fb_conv hk (l := hexB u :: D) (by rw [List.length_cons, hD]) hc' hb'
      rw [show hexB u :: D = hexL v by rw [hx, hexL_one hu16]; rfl] at hcv
      have cz : ∃ cv, wr.cell? ⟨w.heap.size, 64 - k, none⟩ = some cv := ⟨cs[64 - k]'(by omega), (cell_of hb _).trans (Array.getElem?_eq_getElem _)⟩
      obtain ⟨cv, c0⟩ := cz
      have z0 : wr.frozen? ⟨w.heap.size, 64 - k, none⟩ = false := by simp [World.frozen?, hb]
      clear hs' hc' hb' hs hc hb hD hx hbl
      have hk3 : k = 0 ∨ k = 1 ∨ k = 2 ∨ k = 3 := by omega
      rcases hk3 with rfl | rfl | rfl | rfl
      · simp only [Nat.sub_zero, Nat.reduceAdd] at c0 z0 hcv
        go_wp2_with fail
        go_ret2
        exact ⟨rfl, HBL.out.setCell (Nat.le_refl _) _⟩
      · simp only [Nat.reduceSub, Nat.reduceAdd] at c0 z0 hcv
        go_wp2_with fail
        go_ret2
        exact ⟨rfl, HBL.out.setCell (Nat.le_refl _) _⟩
      · simp only [Nat.reduceSub, Nat.reduceAdd] at c0 z0 hcv
        go_wp2_with fail
        go_ret2
        exact ⟨rfl, HBL.out.setCell (Nat.le_refl _) _⟩
      · simp only [Nat.reduceSub, Nat.reduceAdd] at c0 z0 hcv
        go_wp2_with fail
        go_ret2
        exact ⟨rfl, HBL.out.setCell (Nat.le_refl _) _⟩
set_option maxRecDepth 100000 in
theorem fmtIn16_4 (v : Nat) (hv : v < 65536) (w : World) (h : w.cell? ⟨7, 15, none⟩ = some (.int .u8 4)) :
    Calls Tryz.prog 73 #[.int .u64 v, .int .i64 16] w fun e w' => e = .returned (.string (toB (hexL v))) ∧ Below w.heap.size w w' := by
  have h1 := formatBits4 v hv w h
  go_enter Tryz.func73, Tryz.ntmps73
  go_wp2_with fail
  refine h1.mono ?_
  rintro e w1 ⟨rfl, hb1⟩
  have HB := Lib.hid hb1
  clear h1 hb1
  go_wp2_with fail
  go_ret
  exact ⟨rfl, HB.out⟩
set_option maxRecDepth 100000 in
theorem fmt16_4 (v : Nat) (hv : v < 65536) (w : World) (h : w.cell? ⟨7, 15, none⟩ = some (.int .u8 4)) :
    Calls Tryz.prog 37 #[.int .u64 v, .int .i64 16] w fun e w' => e = .returned (.string (toB (hexL v))) ∧ Below w.heap.size w w' := by
  have h1 := fmtIn16_4 v hv w h
  go_enter Tryz.func37, Tryz.ntmps37
  go_wp2_with fail
  refine h1.mono ?_
  rintro e w1 ⟨rfl, hb1⟩
  have HB := Lib.hid hb1
  clear h1 hb1
  go_wp2_with fail
  go_ret
  exact ⟨rfl, HB.out⟩
set_option maxRecDepth 100000 in
set_option maxHeartbeats 1000000 in
theorem fmtIn10_any (v : Nat) (hv : v < 256) (w : World) (h : Lib.TabIs Tryz.prog w "internal/strconv.uint64pow10" .u64 Lib.pow10Tab) :
    Calls Tryz.prog 73 #[.int .u64 v, .int .i64 10] w fun e w' => e = .returned (.string (toB (Lib.decDigits v))) ∧ Below w.heap.size w w' := by
  by_cases hs : v < 100
  · have h1 := Tryz.internal_strconv_small v hs w
    have hd : decide ((v : Int) < 100) = true := by simp; omega
    have s0 : IntKind.i64.wrap (v : Int) = (v : Int) := IntWalk.i64_in _ (by omega)
    clear hs
    go_enter Tryz.func73, Tryz.ntmps73
    go_wp2_with fail
    refine h1.mono ?_
    rintro e w1 ⟨rfl, rfl⟩
    go_wp2_with fail
    go_ret
    exact ⟨rfl, Below.refl _ _⟩
  · have hd : decide ((v : Int) < 100) = false := by simp; omega
    have hn3 : Lib.nDigits v = 3 := by
      rw [Lib.nDigits_big (by omega), Lib.nDigits_big (by omega), Lib.nDigits_small (by omega)]
    have hal : Tryz.prog.arrayLen 197 = 24 := by simp [Program.arrayLen, Tryz.underlying197]
    have hsl : ∀ W, (Instr.sliceAt 197 (.pointer (some ⟨w.heap.size, 0, none⟩)) none (some (.int .i64 3)) none).run Tryz.prog W = .ok (.slice (some ⟨w.heap.size, 0, none⟩) 3 24) W := fun W => by
      rw [run_sliceAt_array_h W 197 ⟨w.heap.size, 0, none⟩ (by simp [Program.arrayLen, Program.elem, Tryz.underlying197]) .i64 3 (by omega) (by rw [hal]; omega)]
      go_simp
    have hH0 := Lib.holds_zero0 w 197 3 (by omega)
    have hfmt := Tryz.internal_strconv_formatBase10 w.heap.size 0 24 v (Array.replicate 3 0) (w.alloc (.cells Lib.zeros24 197)) hH0 (by rw [Array.size_replicate]; omega) (by omega) (by rw [Array.size_replicate]; omega)
    rw [Array.size_replicate] at hfmt
    have hnd := Tryz.internal_strconv_numDigits v (by omega) (by omega) (w.alloc (.cells Lib.zeros24 197)) (Lib.tabIs_alloc h _)
    rw [hn3] at hnd
    have HH0 := Lib.hid hH0
    have HN3 := Lib.hid hn3
    clear hH0 hal hn3
    go_enter Tryz.func73, Tryz.ntmps73
    go_wp2_with fail
    refine hnd.mono ?_
    rintro e w1 ⟨rfl, rfl⟩
    go_wp2_with fail
    refine hfmt.mono ?_
    rintro e w1 ⟨rfl, k, v', dk, rfl, hF⟩
    rw [← HN3.out] at hF
    have hcv : (convert 91 9 (.slice (some ⟨w.heap.size, 0, none⟩) 3 24)).run Tryz.prog ((Sort.putRow (fun (b : UInt8) => Value.int .u8 (b.toNat : Int)) (w.alloc (.cells Lib.zeros24 197)) w.heap.size 0 dk).drewN k) = .ok (.string (toB (Lib.decDigits v))) ((Sort.putRow (fun (b : UInt8) => Value.int .u8 (b.toNat : Int)) (w.alloc (.cells Lib.zeros24 197)) w.heap.size 0 dk).drewN k) := by
      have h := run_convert_bytes_back (P := Tryz.prog) ((Sort.putRow (fun (b : UInt8) => Value.int .u8 (b.toNat : Int)) (w.alloc (.cells Lib.zeros24 197)) w.heap.size 0 dk).drewN k) 91 9 5 ⟨w.heap.size, 0, none⟩ 24 (Lib.decDigits v) Tryz.underlying91 Tryz.underlying5 Tryz.underlying9 (fun j hj => by
        rw [Lib.row_is_numeral hF j hj, Lib.add_plain, World.cell?_drewN]
        exact Sort.cell?_putRow (fun (b : UInt8) => Value.int .u8 (b.toNat : Int)) _ w.heap.size 0 _ dk HH0.out (by rw [hF.size, Array.size_replicate, HN3.out]) j (by rw [hF.size]; rw [Lib.decDigits_length] at hj; exact hj))
      rw [Lib.decDigits_length, HN3.out] at h
      exact h
    obtain ⟨os, eo⟩ := Lib.fin_at w (.cells Lib.zeros24 197) dk k 0
    have hbb : Below w.heap.size w ((Sort.putRow (fun (b : UInt8) => Value.int .u8 (b.toNat : Int)) (w.alloc (.cells Lib.zeros24 197)) w.heap.size 0 dk).drewN k) := by rw [eo]; exact Lib.below_grow w.heap.size w (Nat.le_refl _) k os
    have HBB := Lib.hid hbb
    generalize (Sort.putRow (fun (b : UInt8) => Value.int .u8 (b.toNat : Int)) (w.alloc (.cells Lib.zeros24 197)) w.heap.size 0 dk).drewN k = W2 at hcv HBB ⊢
    clear eo hfmt hnd hbb hF
    go_wp2_with fail
    go_ret
    exact ⟨rfl, HBB.out⟩
set_option maxRecDepth 100000 in
theorem fmt10_any (v : Nat) (hv : v < 256) (w : World) (h : Lib.TabIs Tryz.prog w "internal/strconv.uint64pow10" .u64 Lib.pow10Tab) :
    Calls Tryz.prog 37 #[.int .u64 v, .int .i64 10] w fun e w' => e = .returned (.string (toB (Lib.decDigits v))) ∧ Below w.heap.size w w' := by
  have h1 := fmtIn10_any v hv w h
  go_enter Tryz.func37, Tryz.ntmps37
  go_wp2_with fail
  refine h1.mono ?_
  rintro e w1 ⟨rfl, hb1⟩
  have HB := Lib.hid hb1
  clear h1 hb1
  go_wp2_with fail
  go_ret
  exact ⟨rfl, HB.out⟩
end Go.Proofs.YtcicednopgpjfaaGreatDoor
