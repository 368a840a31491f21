/- span in memory: Length, Masked, Compare (picked out of MkE, WdB, WdC). laneref2.Order (picked from WdA, WdB, WdF). -/
import Derived.Test.YtajifionclpphaaGreatDoorKey2
import Derived.Test.YtajifionclpphaaGreatDoorAdS
import Derived.Laws.BitsAllLaws
import Derived.Laws.ShiftsVarLaws
import Derived.Deep.RegionHeld3
import Derived.Deep.RegionLaw
import Derived.Deep.Cut
import Derived.Deep.CutRange
import Derived.OwnWalk
import Derived.ChangeKeysEq
import Derived.Laws.StructEq
namespace Go.Proofs.YtajifionclpphaaGreatDoor
open Go.RowKit Go.Hw
theorem Re_size (w : World) (o : Obj) : (w.alloc o).heap.size = w.heap.size + 1 := by simp
def addrBox (six : Bool) (hi lo : Int) : Obj := .cells #[.bool six, .int .u64 hi, .int .u64 lo] 30 (0, 0)

def lenA (six : Bool) : Int := if six then 128 else 32
/-- The last m bits are cleared. -/
def clr (x : Int) (m : Nat) : Int := x / 2 ^ m * 2 ^ m

def U64 (x : Int) : Prop := 0 ≤ x ∧ x ≤ 18446744073709551615
theorem clr_u64 {n : Int} (h : U64 n) (m : Nat) : U64 (clr n m) := by
  unfold U64 clr at *
  have hp : (0 : Int) < 2 ^ m := Int.pow_pos (by decide)
  have h2 := Int.ediv_nonneg h.1 (Int.le_of_lt hp)
  have h3 := Int.ediv_mul_le n (Int.ne_of_gt hp)
  exact ⟨Int.mul_nonneg h2 (Int.le_of_lt hp), by omega⟩
/-- The order of addresses. -/
def spanC (s : Bool) (h l : Int) (s' : Bool) (h' l' : Int) : Int := if s = s' then orOf [cmpI h h', cmpI l l'] else if s' = true then -1 else 1

theorem spanLength_any (six : Bool) (hi lo : Int) (w : World) : Calls Tryz.prog 115 #[.agg #[.bool six, .int .u64 hi, .int .u64 lo]] w fun e w' => e = .returned (.int .i64 (lenA six)) ∧ Below w.heap.size w w' := by
  have HB := Lib.hid ((Below.refl w.heap.size w).alloc (Nat.le_refl _) (.cells #[.bool six, .int .u64 hi, .int .u64 lo] 30))
  cases six
  · go_enter Tryz.func115, Tryz.ntmps115
    go_wp2_with fail
    go_ret
    exact ⟨rfl, HB.out⟩
  · go_enter Tryz.func115, Tryz.ntmps115
    go_wp2_with fail
    go_ret
    exact ⟨rfl, HB.out⟩
/-- So many bits at the end. -/
def lowM (k : Nat) : Int := 2 ^ k - 1
theorem pow_le64 {k : Nat} (h : k ≤ 63) : (2 : Int) ^ k ≤ 9223372036854775808 ∧ 1 ≤ (2 : Int) ^ k := by
  have h1 : (2 : Nat) ^ k ≤ 2 ^ 63 := Nat.pow_le_pow_right (by omega) h
  have h2 : (2 : Nat) ^ 63 = 9223372036854775808 := by decide
  have h3 : 1 ≤ (2 : Nat) ^ k := Nat.one_le_two_pow
  have e : (2 : Int) ^ k = ((2 ^ k : Nat) : Int) := by simp
  rw [e]
  generalize (2 : Nat) ^ k = P at *
  omega
set_option maxRecDepth 100000 in
theorem low_any (m : Nat) (w : World) (hm : m ≤ 128) : Calls Tryz.prog 137 #[.int .i64 m] w fun e w' => e = .returned (.tuple #[.int .u64 (lowM (m - 64)), .int .u64 (lowM (min 64 m))]) ∧ Below w.heap.size w w' := by
  by_cases h1 : 128 ≤ m
  · have : m = 128 := by omega
    subst this
    go_enter Tryz.func137, Tryz.ntmps137
    go_wp2_with fail
    go_ret2
    exact ⟨rfl, Below.refl _ _⟩
  by_cases h2 : 64 < m
  · obtain ⟨k, rfl⟩ : ∃ k, m = 64 + k := ⟨m - 64, by omega⟩
    obtain ⟨p1, p2⟩ := pow_le64 (k := k) (by omega)
    have e1 : ((64 + k : Nat) : Int) - 64 = (k : Int) := by omega
    have e2 : IntKind.u64.wrap ((2 : Int) ^ k) = 2 ^ k := IntWalk.u64_in _ (by omega)
    have e3 : IntKind.u64.wrap ((2 : Int) ^ k - 1) = 2 ^ k - 1 := IntWalk.u64_in _ (by omega)
    have e4 : min 64 (64 + k) = 64 := by omega
    have e5 : 64 + k - 64 = k := by omega
    rw [e4, e5]
    have E1 := Lib.hid e1
    clear e4 e5
    go_enter Tryz.func137, Tryz.ntmps137
    go_wp2_with fail
    go_ret2
    exact ⟨rfl, Below.refl _ _⟩
  by_cases h3 : m = 64
  · subst h3
    go_enter Tryz.func137, Tryz.ntmps137
    go_wp2_with fail
    go_ret2
    exact ⟨rfl, Below.refl _ _⟩
  · obtain ⟨p1, p2⟩ := pow_le64 (k := m) (by omega)
    have e2 : IntKind.u64.wrap ((2 : Int) ^ m) = 2 ^ m := IntWalk.u64_in _ (by omega)
    have e3 : IntKind.u64.wrap ((2 : Int) ^ m - 1) = 2 ^ m - 1 := IntWalk.u64_in _ (by omega)
    have e4 : min 64 m = m := by omega
    have e5 : m - 64 = 0 := by omega
    have e6 : ((m : Int) == 64) = false := by rw [beq_eq_false_iff_ne]; omega
    rw [e4, e5]
    clear e4 e5 h3
    go_enter Tryz.func137, Tryz.ntmps137
    go_wp2_with fail
    go_quiet (fail)
    go_wp2_with fail
    go_ret2
    exact ⟨rfl, ⟨rfl, rfl, rfl, Nat.le_refl _, fun _ _ => rfl⟩⟩
theorem andn64 {n : Int} (h : U64 n) {k : Nat} (hk : k ≤ 64) : bits .andNot .u64 n (lowM k) = clr n k := by
  obtain ⟨N, rfl⟩ := Int.eq_ofNat_of_zero_le h.1
  have hN : N < 18446744073709551616 := by have := h.2; omega
  have h1 : (2 : Nat) ^ k ≤ 2 ^ 64 := Nat.pow_le_pow_right (by omega) hk
  have h2 : (2 : Nat) ^ 64 = 18446744073709551616 := by decide
  have h3 : 1 ≤ (2 : Nat) ^ k := Nat.one_le_two_pow
  have e : lowM k = ((2 ^ k - 1 : Nat) : Int) := by
    unfold lowM
    have e' : (2 : Int) ^ k = ((2 ^ k : Nat) : Int) := by simp
    rw [e']
    generalize (2 : Nat) ^ k = P at *
    omega
  rw [e, u64_andNot_nat N _ hN (by omega)]
  have e2 : 18446744073709551615 - (2 ^ k - 1) = 2 ^ 64 - 2 ^ k := by omega
  rw [e2, nat_midmask 64 k N hk, Nat.mod_eq_of_lt (by omega)]
  unfold clr
  simp
set_option maxRecDepth 100000 in
set_option maxHeartbeats 1000000 in
theorem masked_any (s : Bool) (h l b : Int) (w : World) (uh : U64 h) (ul : U64 l) (m : Nat) (hm : lenA s - b = m) (hm2 : m ≤ 128) :
    Calls Tryz.prog 116 #[.agg #[.bool s, .int .u64 h, .int .u64 l], .int .i64 b] w fun e w' => e = .returned (.agg #[.bool s, .int .u64 (clr h (m - 64)), .int .u64 (clr l (min 64 m))]) ∧ Below w.heap.size w w' := by
  have HM := Lib.hid hm
  have hb : 0 ≤ lenA s ∧ lenA s ≤ 128 := by unfold lenA; split <;> omega
  obtain ⟨hb0, hb1⟩ := hb
  have hbb : -128 ≤ b ∧ b ≤ 128 := by omega
  clear hm
  have b0 : ((w.alloc (addrBox s h l)).alloc (addrBox false 0 0)).heap[w.heap.size]? = some (addrBox s h l) := (heap_alloc_old _ _ (by simp)).trans (heap_alloc_new w _)
  have b1 : ((w.alloc (addrBox s h l)).alloc (addrBox false 0 0)).heap[w.heap.size + 1]? = some (addrBox false 0 0) := by
    have := heap_alloc_new (w.alloc (addrBox s h l)) (addrBox false 0 0)
    simp only [Re_size] at this
    exact this
  have HB := Lib.hid (((Below.refl w.heap.size w).alloc (Nat.le_refl _) (addrBox s h l)).alloc (by simp) (addrBox false 0 0))
  go_enter Tryz.func116, Tryz.ntmps116
  go_wp2_with fail
  unfold addrBox at b0 b1
  generalize hW : World.alloc _ _ = W at b0 b1 ⊢
  have HBW : Hid (Below w.heap.size w W) := Lib.hid (by rw [← hW]; exact HB.out)
  clear hW HB
  refine (spanLength_any s h l W).mono ?_
  rintro e W1 ⟨rfl, hb1'⟩
  have hsub : lenA s - b = (m : Int) := HM.out
  have HSUB := Lib.hid hsub
  have c0 := (hb1'.block _ (lt_of_block b0)).trans b0
  have c1 := (hb1'.block _ (lt_of_block b1)).trans b1
  have HB1 := Lib.hid (HBW.out.trans (hb1'.mono HBW.out.size))
  clear hsub b0 b1 hb1' HBW
  go_wp2_with fail
  rw [HSUB.out]
  refine (low_any m W1 hm2).mono ?_
  rintro e W2 ⟨rfl, hb2'⟩
  have d0 := (hb2'.block _ (lt_of_block c0)).trans c0
  have d1 := (hb2'.block _ (lt_of_block c1)).trans c1
  have HB2 := Lib.hid (HB1.out.trans (hb2'.mono HB1.out.size))
  have D0 := Lib.hid d0
  have D1 := Lib.hid d1
  obtain ⟨x0, x1, x2, f0, f1, f2⟩ := res3 d0
  obtain ⟨y0, y1, y2, g0, g1, g2⟩ := res3 d1
  have v1 := andn64 uh (k := m - 64) (by omega)
  have v2 := andn64 ul (k := min 64 m) (by omega)
  have V1 := Lib.hid v1
  have V2 := Lib.hid v2
  clear c0 c1 d0 d1 hb2' HB1 v1 v2
  go_wp2_with fail
  rw [V1.out, V2.out]
  generalize clr h (m - 64) = ch
  generalize clr l (min 64 m) = cl
  clear x0 x1 x2 f0 f1 f2 y0 y1 y2 g0 g1 g2
  have hs := ((Re.refl D0.out).set 1 (.int .u64 ch)).set 2 (.int .u64 cl)
  have hz := (hs.oth (w.heap.size + 1) (by omega)).trans D1.out
  generalize hW : World.setCell _ _ _ = W9
  have hr := re3 hz hW
  obtain ⟨y0, y1, y2, -⟩ := res3 hr.blk
  refine bodyPost_ret (v := .agg #[.bool s, .int .u64 ch, .int .u64 cl]) (by simp [results, Tryz.results116, go_sem, y0, y1, y2]) rfl ⟨rfl, hr.below (hs.below HB2.out (by omega)) (by omega)⟩
end Go.Proofs.YtajifionclpphaaGreatDoor

namespace Go.Proofs.YtajifionclpphaaGreatDoor
open Go.RowKit Go.Hw Go.Shelf

theorem nan_u64 (a : Int) (w : World) : Calls Tryz.prog 184 #[.int .u64 a] w fun e w' => e = .returned (.bool false) ∧ w = w' := by
  have h : (a != a) = false := by simp
  go_enter Tryz.func184, Tryz.ntmps184
  go_wp2_with fail
  go_ret
  exact ⟨ret_bool (by simp), rfl⟩
theorem cmpU_any (a b : Int) (w : World) : Calls Tryz.prog 134 #[.int .u64 a, .int .u64 b] w fun e w' => e = .returned (.int .i64 (cmpI a b)) ∧ w = w' := by
  by_cases h1 : a < b
  · have HF : Hid (cmpI a b = -1) := Lib.hid (by unfold cmpI; rw [if_pos h1])
    go_enter Tryz.func134, Tryz.ntmps134
    go_wp2_with (go_at_call 184; refine (nan_u64 _ _).mono ?_; rintro e w' ⟨rfl, rfl⟩)
    go_ret
    exact ⟨ret_eq HF.out.symm, rfl⟩
  · by_cases h2 : b < a
    · have HF : Hid (cmpI a b = 1) := Lib.hid (by unfold cmpI; rw [if_neg h1, if_pos h2])
      go_enter Tryz.func134, Tryz.ntmps134
      go_wp2_with (go_at_call 184; refine (nan_u64 _ _).mono ?_; rintro e w' ⟨rfl, rfl⟩)
      go_ret
      exact ⟨ret_eq HF.out.symm, rfl⟩
    · have HF : Hid (cmpI a b = 0) := Lib.hid (by unfold cmpI; rw [if_neg h1, if_neg h2])
      go_enter Tryz.func134, Tryz.ntmps134
      go_wp2_with (go_at_call 184; refine (nan_u64 _ _).mono ?_; rintro e w' ⟨rfl, rfl⟩)
      go_ret
      exact ⟨ret_eq HF.out.symm, rfl⟩
set_option maxRecDepth 100000 in
set_option maxHeartbeats 1000000 in
theorem spanCompare_any (s : Bool) (h l : Int) (s' : Bool) (h' l' : Int) (w : World) :
    Calls Tryz.prog 81 #[.agg #[.bool s, .int .u64 h, .int .u64 l], .agg #[.bool s', .int .u64 h', .int .u64 l']] w fun e w' => e = .returned (.int .i64 (spanC s h l s' h' l')) ∧ Below w.heap.size w w' := by
  have b0 : ((w.alloc (addrBox s h l)).alloc (addrBox s' h' l')).heap[w.heap.size]? = some (addrBox s h l) := (heap_alloc_old _ _ (by simp)).trans (heap_alloc_new w _)
  have b1 : ((w.alloc (addrBox s h l)).alloc (addrBox s' h' l')).heap[w.heap.size + 1]? = some (addrBox s' h' l') := by
    have := heap_alloc_new (w.alloc (addrBox s h l)) (addrBox s' h' l')
    simp only [Re_size] at this
    exact this
  obtain ⟨x0, x1, x2, -⟩ := res3 b0
  obtain ⟨x3, x4, x5, -⟩ := res3 b1
  have HB := Lib.hid (((Below.refl w.heap.size w).alloc (Nat.le_refl _) (addrBox s h l)).alloc (by simp) (addrBox s' h' l'))
  have hsz : w.heap.size + 2 ≤ ((w.alloc (addrBox s h l)).alloc (addrBox s' h' l')).heap.size := by simp
  unfold addrBox at x0 x1 x2 x3 x4 x5 hsz
  clear b0 b1
  by_cases hs : s = s'
  · subst hs
    have HF : Hid (spanC s h l s h' l' = orOf [cmpI h h', cmpI l l']) := Lib.hid (by unfold spanC; rw [if_pos rfl])
    have e1 : (s != s) = false := by simp
    go_enter Tryz.func81, Tryz.ntmps81
    go_wp2_with fail
    generalize hW : World.alloc _ _ = W at x0 x1 x2 x3 x4 x5 hsz ⊢
    have HBW : Hid (Below w.heap.size w W) := Lib.hid (by rw [← hW]; exact HB.out)
    clear hW HB
    have hl0 : w.heap.size < W.heap.size := by omega
    have hl1 : w.heap.size + 1 < W.heap.size := by omega
    go_region_held3 (fun w' => w'.cell? ⟨w.heap.size, 0, none⟩ = some (.bool s) ∧ w'.cell? ⟨w.heap.size, 1, none⟩ = some (.int .u64 h) ∧ w'.cell? ⟨w.heap.size, 2, none⟩ = some (.int .u64 l) ∧ w'.cell? ⟨w.heap.size + 1, 0, none⟩ = some (.bool s) ∧ w'.cell? ⟨w.heap.size + 1, 1, none⟩ = some (.int .u64 h') ∧ w'.cell? ⟨w.heap.size + 1, 2, none⟩ = some (.int .u64 l'))
      (first | exact ⟨x0, x1, x2, x3, x4, x5⟩ | ((repeat' apply And.intro) <;> (first | (go_simp; done) | with_reducible assumption)))
      (first
        | (go_at_call 134; refine (cmpU_any _ _ _).mono ?_; rintro e W2 ⟨rfl, rfl⟩)
        | (go_at_call 133; refine (or_any W.heap.size [cmpI h h', cmpI l l'] _ (by exact heap_alloc_new W _) 2 2 rfl (by simp)).mono ?_; rintro e W2 ⟨rfl, rfl⟩))
    go_wp2_with fail
    go_ret
    exact ⟨ret_eq HF.out.symm, (HBW.out.alloc HBW.out.size _).drew⟩
  · cases s <;> cases s'
    · exact absurd rfl hs
    · have HF : Hid (spanC false h l true h' l' = -1) := Lib.hid rfl
      clear hs
      go_enter Tryz.func81, Tryz.ntmps81
      go_wp2_with fail
      go_ret
      exact ⟨ret_eq HF.out.symm, HB.out⟩
    · have HF : Hid (spanC true h l false h' l' = 1) := Lib.hid rfl
      clear hs
      go_enter Tryz.func81, Tryz.ntmps81
      go_wp2_with fail
      go_ret
      exact ⟨ret_eq HF.out.symm, HB.out⟩
    · exact absurd rfl hs
end Go.Proofs.YtajifionclpphaaGreatDoor

namespace Go.Proofs.YtajifionclpphaaGreatDoor
open Go.RowKit Go.Hw

theorem re9w {W W2 : World} {R : Nat} {a0 a1 a2 a3 a4 a5 a6 a7 a8 v0 v1 v2 v3 v4 v5 v6 v7 v8 : Value} {T : TypeId} (hz : W.heap[R]? = some (.cells #[a0, a1, a2, a3, a4, a5, a6, a7, a8] T (0, 0))) (h : (((((((((W.setCell ⟨R, 0, none⟩ v0).setCell ⟨R, 1, none⟩ v1).setCell ⟨R, 2, none⟩ v2).setCell ⟨R, 3, none⟩ v3).setCell ⟨R, 4, none⟩ v4).setCell ⟨R, 5, none⟩ v5).setCell ⟨R, 6, none⟩ v6).setCell ⟨R, 7, none⟩ v7).setCell ⟨R, 8, none⟩ v8) = W2) : Re W W2 R #[v0, v1, v2, v3, v4, v5, v6, v7, v8] T := by
  have := ((((((((((Re.refl hz).set 0 v0).set 1 v1).set 2 v2).set 3 v3).set 4 v4).set 5 v5).set 6 v6).set 7 v7).set 8 v8)
  rw [h] at this
  simpa using this
theorem res9w {W : World} {R : Nat} {a0 a1 a2 a3 a4 a5 a6 a7 a8 : Value} {T : TypeId} (h : W.heap[R]? = some (.cells #[a0, a1, a2, a3, a4, a5, a6, a7, a8] T (0, 0))) : (W.cell? ⟨R, 0, none⟩ = some a0 ∧ W.cell? ⟨R, 1, none⟩ = some a1 ∧ W.cell? ⟨R, 2, none⟩ = some a2 ∧ W.cell? ⟨R, 3, none⟩ = some a3 ∧ W.cell? ⟨R, 4, none⟩ = some a4 ∧ W.cell? ⟨R, 5, none⟩ = some a5 ∧ W.cell? ⟨R, 6, none⟩ = some a6 ∧ W.cell? ⟨R, 7, none⟩ = some a7 ∧ W.cell? ⟨R, 8, none⟩ = some a8) ∧ W.frozen? ⟨R, 0, none⟩ = false ∧ W.frozen? ⟨R, 1, none⟩ = false ∧ W.frozen? ⟨R, 2, none⟩ = false ∧ W.frozen? ⟨R, 3, none⟩ = false ∧ W.frozen? ⟨R, 4, none⟩ = false ∧ W.frozen? ⟨R, 5, none⟩ = false ∧ W.frozen? ⟨R, 6, none⟩ = false ∧ W.frozen? ⟨R, 7, none⟩ = false ∧ W.frozen? ⟨R, 8, none⟩ = false := by
  refine ⟨⟨?_, ?_, ?_, ?_, ?_, ?_, ?_, ?_, ?_⟩, ?_, ?_, ?_, ?_, ?_, ?_, ?_, ?_, ?_⟩ <;> simp [World.cell?, World.frozen?, h]
/-- Nine digits in memory. -/
def arr9 (d : Nat → Int) : Array Value := #[.int .i64 (d 0), .int .i64 (d 1), .int .i64 (d 2), .int .i64 (d 3), .int .i64 (d 4), .int .i64 (d 5), .int .i64 (d 6), .int .i64 (d 7), .int .i64 (d 8)]
theorem arr_ext {d e : Nat → Int} (h : ∀ i, i < 9 → d i = e i) : arr9 d = arr9 e := by
  unfold arr9
  rw [h 0 (by omega), h 1 (by omega), h 2 (by omega), h 3 (by omega), h 4 (by omega), h 5 (by omega), h 6 (by omega), h 7 (by omega), h 8 (by omega)]
theorem arr_set (d : Nat → Int) {j : Nat} (hj : j < 9) (v : Int) : (arr9 d).setIfInBounds j (.int .i64 v) = arr9 (fun i => if i = j then v else d i) := by
  have : j = 0 ∨ j = 1 ∨ j = 2 ∨ j = 3 ∨ j = 4 ∨ j = 5 ∨ j = 6 ∨ j = 7 ∨ j = 8 := by omega
  rcases this with rfl | rfl | rfl | rfl | rfl | rfl | rfl | rfl | rfl <;> simp [arr9]
theorem arr_get {w : World} {B : Nat} {d : Nat → Int} {T : TypeId} (h : w.heap[B]? = some (.cells (arr9 d) T (0, 0))) {j : Nat} (hj : j < 9) : w.cell? ⟨B, j, none⟩ = some (.int .i64 (d j)) ∧ w.frozen? ⟨B, j, none⟩ = false := by
  have : j = 0 ∨ j = 1 ∨ j = 2 ∨ j = 3 ∨ j = 4 ∨ j = 5 ∨ j = 6 ∨ j = 7 ∨ j = 8 := by omega
  rcases this with rfl | rfl | rfl | rfl | rfl | rfl | rfl | rfl | rfl <;> simp [World.cell?, World.frozen?, h, arr9]
/-- Digit k of a number. -/
def dg (n : Int) (k : Nat) : Int := n / 2 ^ (16 * k) % 65536
theorem dg_bd (n : Int) (k : Nat) : 0 ≤ dg n k ∧ dg n k < 65536 := by
  unfold dg
  exact ⟨Int.emod_nonneg _ (by omega), Int.emod_lt_of_pos _ (by omega)⟩
theorem dg_eq {n : Int} (h0 : 0 ≤ n) (h1 : n ≤ 18446744073709551615) (k : Nat) : wrap64 (bits .and .u64 (n / 2 ^ (16 * k)) 65535) = dg n k := by
  have hq : 0 ≤ n / 2 ^ (16 * k) := Int.ediv_nonneg h0 (Int.le_of_lt (Int.pow_pos (by decide)))
  have hq2 : n / 2 ^ (16 * k) ≤ n := Int.ediv_le_self _ h0
  have hb := dg_bd n k
  have e : bits .and .u64 (n / 2 ^ (16 * k)) 65535 = dg n k := by
    rw [u64_and _ _ hq (by omega) (by omega) (by omega)]
    unfold dg
    generalize n / 2 ^ (16 * k) = q at *
    obtain ⟨Q, rfl⟩ := Int.eq_ofNat_of_zero_le hq
    rw [Int.toNat_natCast, show (65535 : Int).toNat = 65535 from rfl, nat_mask16]
    omega
  rw [e]
  exact IntWalk.wrap64_in _ (by omega)
/-- An address as digits. -/
def wd (six : Bool) (hi lo : Int) (i : Nat) : Int := if i < 4 then dg lo i else if i < 8 then dg hi (i - 4) else if six then 1 else 0
/-- Behind k rounds. -/
def wdk (hi lo : Int) (k i : Nat) : Int := if i < 4 then (if i < k then dg lo i else 0) else if i < 8 then (if i - 4 < k then dg hi (i - 4) else 0) else 0
theorem wdk_step (hi lo : Int) {k : Nat} (hk : k < 4) : ((arr9 (wdk hi lo k)).setIfInBounds k (.int .i64 (dg lo k))).setIfInBounds (4 + k) (.int .i64 (dg hi k)) = arr9 (wdk hi lo (k + 1)) := by
  rw [arr_set _ (by omega), arr_set _ (by omega)]
  apply arr_ext
  intro i hi9
  unfold wdk
  by_cases h1 : i = 4 + k
  · subst h1
    rw [if_pos rfl, if_neg (by omega), if_pos (by omega), if_pos (by omega)]
    congr 1
    omega
  · rw [if_neg h1]
    by_cases h2 : i = k
    · subst h2
      rw [if_pos rfl, if_pos (by omega), if_pos (by omega)]
    · rw [if_neg h2]
      by_cases h3 : i < 4
      · rw [if_pos h3, if_pos h3]
        by_cases h4 : i < k
        · rw [if_pos h4, if_pos (by omega)]
        · rw [if_neg h4, if_neg (by omega)]
      · rw [if_neg h3, if_neg h3]
        by_cases h5 : i < 8
        · rw [if_pos h5, if_pos h5]
          by_cases h4 : i - 4 < k
          · rw [if_pos h4, if_pos (by omega)]
          · rw [if_neg h4, if_neg (by omega)]
        · rw [if_neg h5, if_neg h5]
def wideV (d : Nat → Int) : Value := .agg (arr9 d)
def OfI (w : World) (six : Bool) (hi lo : Int) (k : Nat) (wr : World) : Prop :=
  Below w.heap.size w wr ∧ wr.heap[w.heap.size]? = some (addrBox six hi lo) ∧ wr.heap[w.heap.size + 1]? = some (.cells (arr9 fun _ => 0) 169 (0, 0)) ∧ wr.heap[w.heap.size + 1 + 1]? = some (.cells (arr9 (wdk hi lo k)) 169 (0, 0))
set_option maxRecDepth 100000 in
set_option maxHeartbeats 1000000 in
theorem of_any (six : Bool) (hi lo : Int) (w : World) (hh : 0 ≤ hi ∧ hi ≤ 18446744073709551615) (hl : 0 ≤ lo ∧ lo ≤ 18446744073709551615) :
    Calls Tryz.prog 128 #[.agg #[.bool six, .int .u64 hi, .int .u64 lo]] w fun e w' => e = .returned (wideV (wd six hi lo)) ∧ Below w.heap.size w w' := by
  have HH := Lib.hid hh
  have HL := Lib.hid hl
  obtain ⟨hh0, hh1⟩ := hh
  obtain ⟨hl0, hl1⟩ := hl
  go_enter Tryz.func128, Tryz.ntmps128
  go_wp2_with fail
  go_loopw [5] (fun i wr => ∃ k : Nat, k ≤ 4 ∧ i = .int .i64 k ∧ OfI w six hi lo k wr) (fun i _ => 4 - (intOf i).toNat)
  case atStart =>
    refine ⟨0, by omega, rfl, ((((Below.refl _ _).alloc (Nat.le_refl _) _).alloc (by simp <;> omega) _).alloc (by simp <;> omega) _), ?_, ?_, ?_⟩
    · exact (heap_alloc_old _ _ (by simp <;> omega)).trans ((heap_alloc_old _ _ (by simp <;> omega)).trans (heap_alloc_new w _))
    · have := heap_alloc_new (w.alloc (addrBox six hi lo)) (.cells (arr9 fun _ => 0) 169)
      simp only [Re_size] at this
      exact (heap_alloc_old _ _ (by simp <;> omega)).trans this
    · have := heap_alloc_new ((w.alloc (addrBox six hi lo)).alloc (.cells (arr9 fun _ => 0) 169)) (.cells (arr9 (wdk hi lo 0)) 169)
      simp only [Re_size] at this
      exact this
  case round =>
    obtain ⟨k, hk, rfl, hb, b0, b1, b2⟩ := hrel
    by_cases hlt : k < 4
    · obtain ⟨c2, f2⟩ := arr_get b2 (j := k) (by omega)
      obtain ⟨d2, g2⟩ := arr_get b2 (j := 4 + k) (by omega)
      obtain ⟨-, x1, x2, -⟩ := res3 b0
      have HB := Lib.hid hb
      have B0 := Lib.hid b0
      have B1 := Lib.hid b1
      have B2 := Lib.hid b2
      clear hb b0 b1 b2
      go_wp2_with fail
      rw [dg_eq hl0 hl1, dg_eq hh0 hh1]
      generalize hW : World.setCell _ _ _ = W2
      have hr := ((Re.refl B2.out).set k (.int .i64 (dg lo k))).set (4 + k) (.int .i64 (dg hi k))
      rw [hW, wdk_step hi lo hlt] at hr
      have hO : OfI w six hi lo (k + 1) W2 := ⟨hr.below HB.out (by omega), (hr.oth _ (by omega)).trans B0.out, (hr.oth _ (by omega)).trans B1.out, hr.blk⟩
      clear hW hr c2 f2 d2 g2 x1 x2
      go_roundw
      case rel => exact ⟨k + 1, by omega, by go_num, hO⟩
      case measure => simp [intOf]; omega
    · have : k = 4 := by omega
      subst this
      have HB := Lib.hid hb
      obtain ⟨x0, -, -, -⟩ := res3 b0
      have e4 : arr9 (wdk hi lo 4) = #[.int .i64 (wd six hi lo 0), .int .i64 (wd six hi lo 1), .int .i64 (wd six hi lo 2), .int .i64 (wd six hi lo 3), .int .i64 (wd six hi lo 4), .int .i64 (wd six hi lo 5), .int .i64 (wd six hi lo 6), .int .i64 (wd six hi lo 7), .int .i64 0] := by
        unfold arr9 wdk wd
        simp
      rw [e4] at b2
      have b1' : wr.heap[w.heap.size + 1]? = some (.cells #[.int .i64 0, .int .i64 0, .int .i64 0, .int .i64 0, .int .i64 0, .int .i64 0, .int .i64 0, .int .i64 0, .int .i64 0] 169 (0, 0)) := b1
      obtain ⟨⟨z0, z1, z2, z3, z4, z5, z6, z7, z8⟩, f0, f1, f2, f3, f4, f5, f6, f7, f8⟩ := res9w b1'
      obtain ⟨⟨d0, d1, d2, d3, d4, d5, d6, d7, d8⟩, -, -, -, -, -, -, -, -, g8⟩ := res9w b2
      have B1 := Lib.hid b1'
      have B2 := Lib.hid b2
      clear hb b0 b1 b1' b2 e4
      cases six
      · go_wp2_with fail
        clear z0 z1 z2 z3 z4 z5 z6 z7 z8 d0 d1 d2 d3 d4 d5 d6 d7 d8 f0 f1 f2 f3 f4 f5 f6 f7 f8 g8 x0
        generalize hW : World.setCell _ _ _ = W9
        have hr := re9w B1.out hW
        obtain ⟨⟨y0, y1, y2, y3, y4, y5, y6, y7, y8⟩, -⟩ := res9w hr.blk
        refine bodyPost_ret (v := wideV (wd false hi lo)) (by simp [results, Tryz.results128, go_sem, y0, y1, y2, y3, y4, y5, y6, y7, y8, wideV, arr9, show wd false hi lo 8 = 0 from rfl]) rfl ⟨rfl, hr.below HB.out (by omega)⟩
      · go_wp2_with fail
        clear z0 z1 z2 z3 z4 z5 z6 z7 z8 d0 d1 d2 d3 d4 d5 d6 d7 d8 f0 f1 f2 f3 f4 f5 f6 f7 f8 g8 x0
        have hs := (Re.refl B2.out).set 8 (.int .i64 1)
        have hz := (hs.oth (w.heap.size + 1) (by omega)).trans B1.out
        generalize hW : World.setCell _ _ _ = W9
        have hr := re9w hz hW
        obtain ⟨⟨y0, y1, y2, y3, y4, y5, y6, y7, y8⟩, -⟩ := res9w hr.blk
        refine bodyPost_ret (v := wideV (wd true hi lo)) (by simp [results, Tryz.results128, go_sem, y0, y1, y2, y3, y4, y5, y6, y7, y8, wideV, arr9, show wd true hi lo 8 = 1 from rfl]) rfl ⟨rfl, hr.below (hs.below HB.out (by omega)) (by omega)⟩
theorem wd_bd (six : Bool) (hi lo : Int) (i : Nat) : 0 ≤ wd six hi lo i ∧ wd six hi lo i < 65536 := by
  unfold wd
  split
  · exact dg_bd _ _
  · split
    · exact dg_bd _ _
    · split <;> omega
end Go.Proofs.YtajifionclpphaaGreatDoor
