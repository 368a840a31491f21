/- Prefixes in the program: span.Filled, Last, Next; math/bits.Add64. Prefixes in the program: span.Contains, Inside. -/
import Derived.Test.YtajifionclpphaaGreatDoorDrS
import Derived.BigQuiet
import Derived.Laws.Externs
import Derived.Deep.RegionHeld3
namespace Go.Proofs.YtajifionclpphaaGreatDoor
open Go.RowKit Go.Hw
theorem ret_eqb {a b : Bool} (h : a = b) : Ending.returned (.bool a) = .returned (.bool b) := by rw [h]
theorem below_dn {B : Nat} {a w : World} (h : Below B a w) (n : Nat) : Below B a (w.drewN n) := ⟨h.os, h.tape, h.output, h.size, h.block⟩
/-- Is an address in a prefix, as the program asks it? -/
def contP (s : Bool) (h l b : Int) (s' : Bool) (h' l' : Int) : Bool := decide (s = s') && (decide (clr h' ((lenA s - b).toNat - 64) = h) && decide (clr l' (min 64 (lenA s - b).toNat) = l))
/-- The last k bits are filled. -/
def fil (x : Int) (k : Nat) : Int := clr x k + lowM k
theorem orl64 {n : Int} (h : U64 n) {k : Nat} (hk : k ≤ 64) : bits .or .u64 n (lowM k) = fil n k := by
  obtain ⟨N, rfl⟩ := Int.eq_ofNat_of_zero_le h.1
  have hN : N < 18446744073709551616 := by have := h.2; omega
  have h1 : (2 : Nat) ^ k ≤ 2 ^ 64 := Nat.pow_le_pow_right (by omega) hk
  have h2 : (2 : Nat) ^ 64 = 18446744073709551616 := by decide
  have h3 : 1 ≤ (2 : Nat) ^ k := Nat.one_le_two_pow
  have e : lowM k = ((2 ^ k - 1 : Nat) : Int) := by
    unfold lowM
    have e' : (2 : Int) ^ k = ((2 ^ k : Nat) : Int) := by simp
    rw [e']
    generalize (2 : Nat) ^ k = P at *
    omega
  have ec : clr (N : Int) k = ((N / 2 ^ k * 2 ^ k : Nat) : Int) := by unfold clr; simp
  unfold fil
  rw [e, ec, u64_or_nat N _ hN (by omega), ← Int.natCast_add]
  congr 1
  have hor : N ||| (2 ^ k - 1) = 2 ^ k * (N / 2 ^ k) ||| (2 ^ k - 1) := by
    apply Nat.eq_of_testBit_eq
    intro j
    rw [Nat.testBit_or, Nat.testBit_or, Nat.testBit_two_pow_sub_one, Nat.mul_comm, clr_bit]
    by_cases hj : k ≤ j
    · simp [hj]
    · have : j < k := by omega
      simp [this]
  rw [hor, ← Nat.two_pow_add_eq_or_of_lt (by omega), Nat.mul_comm]
set_option maxRecDepth 100000 in
set_option maxHeartbeats 1000000 in
theorem filled_any (s : Bool) (h l b : Int) (w : World) (uh : U64 h) (ul : U64 l) (m : Nat) (hm : lenA s - b = m) (hm2 : m ≤ 128) :
    Calls Tryz.prog 87 #[.agg #[.bool s, .int .u64 h, .int .u64 l], .int .i64 b] w fun e w' => e = .returned (.agg #[.bool s, .int .u64 (fil h (m - 64)), .int .u64 (fil l (min 64 m))]) ∧ Below w.heap.size w w' := by
  have HM := Lib.hid hm
  have hb : 0 ≤ lenA s ∧ lenA s ≤ 128 := by unfold lenA; split <;> omega
  obtain ⟨hb0, hb1⟩ := hb
  have hbb : -128 ≤ b ∧ b ≤ 128 := by omega
  clear hm
  have b0 : ((w.alloc (addrBox s h l)).alloc (addrBox false 0 0)).heap[w.heap.size]? = some (addrBox s h l) := (heap_alloc_old _ _ (by simp)).trans (heap_alloc_new w _)
  have b1 : ((w.alloc (addrBox s h l)).alloc (addrBox false 0 0)).heap[w.heap.size + 1]? = some (addrBox false 0 0) := by
    have := heap_alloc_new (w.alloc (addrBox s h l)) (addrBox false 0 0)
    simp only [Re_size] at this
    exact this
  have HB := Lib.hid (((Below.refl w.heap.size w).alloc (Nat.le_refl _) (addrBox s h l)).alloc (by simp) (addrBox false 0 0))
  go_enter Tryz.func87, Tryz.ntmps87
  go_wp2_with fail
  unfold addrBox at b0 b1
  generalize hW : World.alloc _ _ = W at b0 b1 ⊢
  have HBW : Hid (Below w.heap.size w W) := Lib.hid (by rw [← hW]; exact HB.out)
  clear hW HB
  refine (spanLength_any s h l W).mono ?_
  rintro e W1 ⟨rfl, hb1'⟩
  have hsub : lenA s - b = (m : Int) := HM.out
  have HSUB := Lib.hid hsub
  have c0 := (hb1'.block _ (lt_of_block b0)).trans b0
  have c1 := (hb1'.block _ (lt_of_block b1)).trans b1
  have HB1 := Lib.hid (HBW.out.trans (hb1'.mono HBW.out.size))
  clear hsub b0 b1 hb1' HBW
  go_wp2_with fail
  rw [HSUB.out]
  refine (low_any m W1 hm2).mono ?_
  rintro e W2 ⟨rfl, hb2'⟩
  have d0 := (hb2'.block _ (lt_of_block c0)).trans c0
  have d1 := (hb2'.block _ (lt_of_block c1)).trans c1
  have HB2 := Lib.hid (HB1.out.trans (hb2'.mono HB1.out.size))
  have D0 := Lib.hid d0
  have D1 := Lib.hid d1
  obtain ⟨x0, x1, x2, f0, f1, f2⟩ := res3 d0
  obtain ⟨y0, y1, y2, g0, g1, g2⟩ := res3 d1
  have v1 := orl64 uh (k := m - 64) (by omega)
  have v2 := orl64 ul (k := min 64 m) (by omega)
  have V1 := Lib.hid v1
  have V2 := Lib.hid v2
  clear c0 c1 d0 d1 hb2' HB1 v1 v2
  go_wp2_with fail
  rw [V1.out, V2.out]
  generalize fil h (m - 64) = ch
  generalize fil l (min 64 m) = cl
  clear x0 x1 x2 f0 f1 f2 y0 y1 y2 g0 g1 g2
  have hs := ((Re.refl D0.out).set 1 (.int .u64 ch)).set 2 (.int .u64 cl)
  have hz := (hs.oth (w.heap.size + 1) (by omega)).trans D1.out
  generalize hW : World.setCell _ _ _ = W9
  have hr := re3 hz hW
  obtain ⟨y0, y1, y2, -⟩ := res3 hr.blk
  refine bodyPost_ret (v := .agg #[.bool s, .int .u64 ch, .int .u64 cl]) (by simp [results, Tryz.results87, go_sem, y0, y1, y2]) rfl ⟨rfl, hr.below (hs.below HB2.out (by omega)) (by omega)⟩
set_option maxRecDepth 100000 in
theorem last_any (s : Bool) (h l b : Int) (w : World) (uh : U64 h) (ul : U64 l) (m : Nat) (hm : lenA s - b = m) (hm2 : m ≤ 128) :
    Calls Tryz.prog 77 #[.agg #[.bool s, .int .u64 h, .int .u64 l, .int .i64 b]] w fun e w' => e = .returned (.agg #[.bool s, .int .u64 (fil h (m - 64)), .int .u64 (fil l (min 64 m))]) ∧ Below w.heap.size w w' := by
  have hfi := fun W => filled_any s h l b W uh ul m hm hm2
  have b0 : ((w.alloc (pfBox s h l b)).alloc (addrBox false 0 0)).heap[w.heap.size]? = some (pfBox s h l b) := (heap_alloc_old _ _ (by simp)).trans (heap_alloc_new w _)
  have b1 : ((w.alloc (pfBox s h l b)).alloc (addrBox false 0 0)).heap[w.heap.size + 1]? = some (addrBox false 0 0) := by
    have := heap_alloc_new (w.alloc (pfBox s h l b)) (addrBox false 0 0)
    simp only [Re_size] at this
    exact this
  obtain ⟨⟨x0, x1, x2, x3⟩, -⟩ := res4 b0
  have HB := Lib.hid (((Below.refl w.heap.size w).alloc (Nat.le_refl _) (pfBox s h l b)).alloc (by simp) (addrBox false 0 0))
  unfold pfBox addrBox at b0 b1 x0 x1 x2 x3
  generalize fil h (m - 64) = fh at *
  generalize fil l (min 64 m) = fl at *
  clear hm
  go_enter Tryz.func77, Tryz.ntmps77
  go_wp2_with fail
  generalize hW : World.alloc _ _ = W at b0 b1 x0 x1 x2 x3 ⊢
  have HBW : Hid (Below w.heap.size w W) := Lib.hid (by rw [← hW]; exact HB.out)
  have B1 := Lib.hid b1
  clear hW HB b0
  refine (hfi W).mono ?_
  rintro e w1 ⟨rfl, hb1⟩
  have HF := Lib.hid (HBW.out.trans (hb1.mono HBW.out.size))
  have hz := (hb1.block _ (lt_of_block B1.out)).trans B1.out
  have HZ := Lib.hid hz
  obtain ⟨z0, z1, z2, g0, g1, g2⟩ := res3 hz
  clear hb1 hfi x0 x1 x2 x3 hz B1 b1
  go_wp2_with fail
  generalize hW : World.setCell _ _ _ = W9
  have hr := re3 HZ.out hW
  obtain ⟨y0, y1, y2, -⟩ := res3 hr.blk
  refine bodyPost_ret (v := .agg #[.bool s, .int .u64 fh, .int .u64 fl]) (by simp [results, Tryz.results77, go_sem, y0, y1, y2]) rfl ⟨rfl, hr.below HF.out (by omega)⟩
theorem add64_call (x : Int) (hx : 0 ≤ x) (w : World) : (callFunc 136 #[.int .u64 x, .int .u64 1, .int .u64 0]).run Tryz.prog w = .ok (.value (.tuple #[.int .u64 ((x + 1 + 0) % 18446744073709551616), .int .u64 ((x + 1 + 0) / 18446744073709551616)])) w := by
  rw [run_callFunc_extern Tryz.func136 (by kernel_rfl) (by kernel_rfl) (by kernel_rfl) (e := add64Entry) (by kernel_rfl), run_add64 x 1 0 (by omega) (by omega) (by omega) (by omega)]
  rfl
/-- What lies behind an address. -/
def nxH (h l : Int) : Int := if l = 18446744073709551615 then h + 1 else h
def nxL (l : Int) : Int := if l = 18446744073709551615 then 0 else l + 1
/-- The last address of a family. -/
def endA (s : Bool) (h l : Int) : Bool := decide (l = lowM (min 64 (lenA s).toNat)) && decide (h = lowM ((lenA s).toNat - 64))
theorem fil_all {s : Bool} {h l : Int} (hf : AddrFine s h l) : fil h ((lenA s).toNat - 64) = lowM ((lenA s).toNat - 64) ∧ fil l (min 64 (lenA s).toNat) = lowM (min 64 (lenA s).toNat) := by
  obtain ⟨h1, h2, h3⟩ := hf
  unfold fil clr lowM lenA
  cases s
  · obtain ⟨h4, h5⟩ := h3 rfl
    subst h4
    simp
    omega
  · simp
    omega
set_option maxRecDepth 100000 in
set_option maxHeartbeats 1000000 in
theorem next_any' (s : Bool) (h l : Int) (w : World) (hf : AddrFine s h l) :
    Calls Tryz.prog 86 #[.agg #[.bool s, .int .u64 h, .int .u64 l]] w fun e w' => e = .returned (.tuple #[if endA s h l then .agg #[.bool s, .int .u64 h, .int .u64 l] else .agg #[.bool s, .int .u64 (nxH h l), .int .u64 (nxL l)], .bool (!endA s h l)]) ∧ Below w.heap.size w w' := by
  have hfl := fil_all hf
  have hfi := fun W => filled_any s h l 0 W hf.1 hf.2.1 (lenA s).toNat (by unfold lenA; split <;> rfl) (by unfold lenA; split <;> decide)
  rw [hfl.1, hfl.2] at hfi
  have hgd := guard_addr
  have HE : Hid (endA s h l = (decide (h = lowM ((lenA s).toNat - 64)) && decide (l = lowM (min 64 (lenA s).toNat)))) := Lib.hid (by unfold endA; rw [Bool.and_comm])
  have b0 : ((w.alloc (addrBox s h l)).alloc (addrBox false 0 0)).heap[w.heap.size]? = some (addrBox s h l) := (heap_alloc_old _ _ (by simp)).trans (heap_alloc_new w _)
  have b1 : ((w.alloc (addrBox s h l)).alloc (addrBox false 0 0)).heap[w.heap.size + 1]? = some (addrBox false 0 0) := by
    have := heap_alloc_new (w.alloc (addrBox s h l)) (addrBox false 0 0)
    simp only [Re_size] at this
    exact this
  have HB := Lib.hid (((Below.refl w.heap.size w).alloc (Nat.le_refl _) (addrBox s h l)).alloc (by simp) (addrBox false 0 0))
  have hq := fun W => run_eq_addr 9998 s s h (lowM ((lenA s).toNat - 64)) l (lowM (min 64 (lenA s).toNat)) W
  have hne : endA s h l = false → (h < 18446744073709551615 ∨ l < 18446744073709551615) ∧ 0 ≤ h ∧ 0 ≤ l ∧ h ≤ 18446744073709551615 ∧ l ≤ 18446744073709551615 := fun he => by
    refine ⟨?_, hf.1.1, hf.2.1.1, hf.1.2, hf.2.1.2⟩
    have h3 := hf.2.2
    have h1 := hf.1
    have h2 := hf.2.1
    unfold endA lowM lenA at he
    cases s
    · have := h3 rfl
      omega
    · simp at he
      omega
  generalize lowM ((lenA s).toNat - 64) = fh at *
  generalize lowM (min 64 (lenA s).toNat) = fl at *
  obtain ⟨q, hqv⟩ : ∃ q, endA s h l = q := ⟨_, rfl⟩
  have hbb : (s == s && (h == fh && l == fl)) = q := by rw [← hqv, HE.out]; simp; rfl
  have hq' := fun W => (hq W).trans (show _ = Result.ok q W from by rw [hbb])
  rw [hqv] at hne ⊢
  unfold addrBox at b0 b1
  obtain ⟨x0, x1, x2, f0, f1, f2⟩ := res3 b0
  clear hq hbb hqv HE hfl
  go_enter Tryz.func86, Tryz.ntmps86
  go_wp2_with fail
  generalize hW : World.alloc _ _ = W at b0 b1 x0 x1 x2 f0 f1 f2 ⊢
  have HBW : Hid (Below w.heap.size w W) := Lib.hid (by rw [← hW]; exact HB.out)
  have hl0 := lt_of_block b0
  have hl1 := lt_of_block b1
  have B0 := Lib.hid b0
  have B1 := Lib.hid b1
  clear hW HB b0 b1
  clear f0 f1 f2
  go_region_held3 (fun w' => w'.cell? ⟨w.heap.size, 0, none⟩ = some (.bool s) ∧ w'.cell? ⟨w.heap.size, 1, none⟩ = some (.int .u64 h) ∧ w'.cell? ⟨w.heap.size, 2, none⟩ = some (.int .u64 l))
    (first | exact ⟨x0, x1, x2⟩ | ((repeat' apply And.intro) <;> (first | (go_simp; done) | with_reducible assumption)))
    (first
      | (go_at_call 87; refine (hfi _).mono ?_; rintro e W1 ⟨rfl, hb1⟩; have x0 : W1.cell? ⟨w.heap.size, 0, none⟩ = some (.bool s) := (hb1.cell (p := ⟨w.heap.size, 0, none⟩) (by first | (simp; done) | (simp; omega) | omega)).trans (by first | assumption | (go_simp; done)); have x1 : W1.cell? ⟨w.heap.size, 1, none⟩ = some (.int .u64 h) := (hb1.cell (p := ⟨w.heap.size, 1, none⟩) (by first | (simp; done) | (simp; omega) | omega)).trans (by first | assumption | (go_simp; done)); have x2 : W1.cell? ⟨w.heap.size, 2, none⟩ = some (.int .u64 l) := (hb1.cell (p := ⟨w.heap.size, 2, none⟩) (by first | (simp; done) | (simp; omega) | omega)).trans (by first | assumption | (go_simp; done)); have hsz : w.heap.size + 1 < W1.heap.size := (by have := hb1.size; (try simp at this); omega); have B0 : Hid (W1.heap[w.heap.size]? = some (.cells #[.bool s, .int .u64 h, .int .u64 l] 30 (0, 0))) := (by first | exact Lib.hid ((hb1.block _ hl0).trans B0.out)); have B1 : Hid (W1.heap[w.heap.size + 1]? = some (.cells #[.bool false, .int .u64 0, .int .u64 0] 30 (0, 0))) := (by first | exact Lib.hid ((hb1.block _ hl1).trans B1.out)); have HBW : Hid (Below w.heap.size w W1) := (by first | exact Lib.hid (HBW.out.trans (hb1.mono (by omega))) | exact Lib.hid (HBW.out.drew.trans (hb1.mono (show w.heap.size ≤ W.heap.size by omega))))))
  cases q
  · obtain ⟨hlt, u1, u2, u3, u4⟩ := hne rfl
    have hadd := fun W => add64_call l u2 W
    have HLO : Hid ((l + 1 + 0) % 18446744073709551616 = nxL l) := Lib.hid (by unfold nxL; split <;> omega)
    have HHI : Hid (IntKind.u64.wrap (h + (l + 1 + 0) / 18446744073709551616) = nxH h l) := Lib.hid (by
      unfold nxH
      split
      · rename_i hl
        subst hl
        rw [show ((18446744073709551615 : Int) + 1 + 0) / 18446744073709551616 = 1 from rfl]
        exact IntWalk.u64_in _ (by omega)
      · rw [show (l + 1 + 0) / 18446744073709551616 = 0 by omega, Int.add_zero]
        exact IntWalk.u64_in _ (by omega))
    generalize (l + 1 + 0) % 18446744073709551616 = lo' at *
    generalize (l + 1 + 0) / 18446744073709551616 = cy at *
    rw [HLO.out] at hadd
    clear HLO hne hlt u1 u2 u3 u4
    obtain ⟨nl, hnl⟩ : ∃ x, nxL l = x := ⟨_, rfl⟩
    obtain ⟨nh, hnh⟩ : ∃ x, nxH h l = x := ⟨_, rfl⟩
    have HNL := Lib.hid hnl
    have HNH := Lib.hid hnh
    rw [hnl] at hadd
    have hwr := HHI.out.trans hnh
    clear HHI hnl hnh
    obtain ⟨x0, x1, x2, f0, f1, f2⟩ := res3 B0.out
    obtain ⟨z0, z1, z2, g0, g1, g2⟩ := res3 B1.out
    go_wp2_with fail
    clear x0 x1 x2 f0 f1 f2 z0 z1 z2 g0 g1 g2
    have hs := ((Re.refl B0.out).set 2 (.int .u64 nl)).set 1 (.int .u64 nh)
    have hz := (hs.oth (w.heap.size + 1) (by omega)).trans B1.out
    generalize hW : World.setCell _ _ _ = W9
    have hr := re3 hz hW
    obtain ⟨y0, y1, y2, -⟩ := res3 hr.blk
    refine bodyPost_ret (v := .tuple #[.agg #[.bool s, .int .u64 nh, .int .u64 nl], .bool true]) (by simp [results, Tryz.results86, go_sem, y0, y1, y2]) rfl ⟨by rw [HNL.out, HNH.out], hr.below (hs.below HBW.out (by omega)) (by omega)⟩
  · obtain ⟨z0, z1, z2, g0, g1, g2⟩ := res3 B1.out
    clear hne
    go_wp2_with fail
    generalize hW : World.setCell _ _ _ = W9
    have hr := re3 B1.out hW
    obtain ⟨y0, y1, y2, -⟩ := res3 hr.blk
    refine bodyPost_ret (v := .tuple #[.agg #[.bool s, .int .u64 h, .int .u64 l], .bool false]) (by simp [results, Tryz.results86, go_sem, y0, y1, y2]) rfl ⟨rfl, hr.below HBW.out (by omega)⟩
end Go.Proofs.YtajifionclpphaaGreatDoor

namespace Go.Proofs.YtajifionclpphaaGreatDoor
open Go.RowKit Go.Hw
set_option maxRecDepth 100000 in
set_option maxHeartbeats 1000000 in
theorem contains_any (s : Bool) (h l b : Int) (s' : Bool) (h' l' : Int) (w : World) (uh : U64 h') (ul : U64 l') (hc : PfRight s h l b) :
    Calls Tryz.prog 117 #[.agg #[.bool s, .int .u64 h, .int .u64 l, .int .i64 b], .agg #[.bool s', .int .u64 h', .int .u64 l']] w fun e w' => e = .returned (.bool (contP s h l b s' h' l')) ∧ Below w.heap.size w w' := by
  obtain ⟨-, -, m, hm, hm2, -⟩ := hc
  have HE : Hid (contP s h l b s' h' l' = (decide (s = s') && (decide (clr h' (m - 64) = h) && decide (clr l' (min 64 m) = l)))) := Lib.hid (by unfold contP; rw [hm, Int.toNat_natCast])
  have HM := Lib.hid hm
  have UH := Lib.hid uh
  have UL := Lib.hid ul
  have hgd := guard_addr
  clear hm
  have b0 : ((w.alloc (pfBox s h l b)).alloc (addrBox s' h' l')).heap[w.heap.size]? = some (pfBox s h l b) := (heap_alloc_old _ _ (by simp)).trans (heap_alloc_new w _)
  have b1 : ((w.alloc (pfBox s h l b)).alloc (addrBox s' h' l')).heap[w.heap.size + 1]? = some (addrBox s' h' l') := by
    have := heap_alloc_new (w.alloc (pfBox s h l b)) (addrBox s' h' l')
    simp only [Re_size] at this
    exact this
  obtain ⟨⟨x0, x1, x2, x3⟩, -⟩ := res4 b0
  obtain ⟨x4, x5, x6, -⟩ := res3 b1
  have HB := Lib.hid (((Below.refl w.heap.size w).alloc (Nat.le_refl _) (pfBox s h l b)).alloc (by simp) (addrBox s' h' l'))
  have hsz : w.heap.size + 2 ≤ ((w.alloc (pfBox s h l b)).alloc (addrBox s' h' l')).heap.size := by simp
  unfold pfBox addrBox at x0 x1 x2 x3 x4 x5 x6 hsz
  clear b0 b1
  go_enter Tryz.func117, Tryz.ntmps117
  go_wp2_with fail
  generalize hW : World.alloc _ _ = W at x0 x1 x2 x3 x4 x5 x6 hsz ⊢
  have HBW : Hid (Below w.heap.size w W) := Lib.hid (by rw [← hW]; exact HB.out)
  clear hW HB
  by_cases hss : s = s'
  · subst hss
    rw [decide_eq_true (rfl : s = s), Bool.true_and] at HE
    have hbb : (s == s) = true := by simp
    have hq := fun W => (run_eq_addr 9998 s s (clr h' (m - 64)) h (clr l' (min 64 m)) l W).trans (show _ = Result.ok (decide (clr h' (m - 64) = h) && decide (clr l' (min 64 m) = l)) W from by rw [hbb, Bool.true_and]; rfl)
    first | (go_region_held3 (fun w' => w'.cell? ⟨w.heap.size, 0, none⟩ = some (.bool s) ∧ w'.cell? ⟨w.heap.size, 1, none⟩ = some (.int .u64 h) ∧ w'.cell? ⟨w.heap.size, 2, none⟩ = some (.int .u64 l) ∧ w'.cell? ⟨w.heap.size, 3, none⟩ = some (.int .i64 b) ∧ w'.cell? ⟨w.heap.size + 1, 0, none⟩ = some (.bool s) ∧ w'.cell? ⟨w.heap.size + 1, 1, none⟩ = some (.int .u64 h') ∧ w'.cell? ⟨w.heap.size + 1, 2, none⟩ = some (.int .u64 l'))
      (first | exact ⟨x0, x1, x2, x3, x4, x5, x6⟩ | ((repeat' apply And.intro) <;> (first | (go_simp; done) | with_reducible assumption)))
      (first
        | (go_at_call 116; refine (masked_any _ _ _ _ _ UH.out UL.out m HM.out hm2).mono ?_; rintro e W1 ⟨rfl, hb1⟩; have x0 : W1.cell? ⟨w.heap.size, 0, none⟩ = some (.bool s) := (hb1.cell (p := ⟨w.heap.size, 0, none⟩) (by first | (simp; done) | (simp; omega) | omega)).trans (by first | assumption | (go_simp; done)); have x1 : W1.cell? ⟨w.heap.size, 1, none⟩ = some (.int .u64 h) := (hb1.cell (p := ⟨w.heap.size, 1, none⟩) (by first | (simp; done) | (simp; omega) | omega)).trans (by first | assumption | (go_simp; done)); have x2 : W1.cell? ⟨w.heap.size, 2, none⟩ = some (.int .u64 l) := (hb1.cell (p := ⟨w.heap.size, 2, none⟩) (by first | (simp; done) | (simp; omega) | omega)).trans (by first | assumption | (go_simp; done)); have x3 : W1.cell? ⟨w.heap.size, 3, none⟩ = some (.int .i64 b) := (hb1.cell (p := ⟨w.heap.size, 3, none⟩) (by first | (simp; done) | (simp; omega) | omega)).trans (by first | assumption | (go_simp; done)); have x4 : W1.cell? ⟨w.heap.size + 1, 0, none⟩ = some (.bool s) := (hb1.cell (p := ⟨w.heap.size + 1, 0, none⟩) (by first | (simp; done) | (simp; omega) | omega)).trans (by first | assumption | (go_simp; done)); have x5 : W1.cell? ⟨w.heap.size + 1, 1, none⟩ = some (.int .u64 h') := (hb1.cell (p := ⟨w.heap.size + 1, 1, none⟩) (by first | (simp; done) | (simp; omega) | omega)).trans (by first | assumption | (go_simp; done)); have x6 : W1.cell? ⟨w.heap.size + 1, 2, none⟩ = some (.int .u64 l') := (hb1.cell (p := ⟨w.heap.size + 1, 2, none⟩) (by first | (simp; done) | (simp; omega) | omega)).trans (by first | assumption | (go_simp; done)); have hsz : w.heap.size + 2 ≤ W1.heap.size := (by have := hb1.size; (try simp at this); omega); have HBW : Hid (Below w.heap.size w W1) := (by first | exact Lib.hid (HBW.out.trans (hb1.mono (by omega))) | exact Lib.hid (HBW.out.drew.trans (hb1.mono (by first | omega | (simp; omega)))))))) | done
    go_wp2_with fail
    go_ret
    exact ⟨ret_eqb HE.out.symm, HBW.out⟩
  · rw [decide_eq_false hss, Bool.false_and] at HE
    have hbb : (s == s') = false := by rw [beq_eq_false_iff_ne]; exact hss
    go_quiet (fail)
    go_wp2_with fail
    go_ret
    exact ⟨ret_eqb HE.out.symm, below_dn HBW.out _⟩
set_option maxRecDepth 100000 in
theorem inside_any (s : Bool) (h l b : Int) (s' : Bool) (h' l' b' : Int) (w : World) (uh : U64 h) (ul : U64 l) (hc : PfRight s' h' l' b') :
    Calls Tryz.prog 60 #[.agg #[.bool s, .int .u64 h, .int .u64 l, .int .i64 b], .agg #[.bool s', .int .u64 h', .int .u64 l', .int .i64 b']] w fun e w' => e = .returned (.bool (decide (b' ≤ b) && contP s' h' l' b' s h l)) ∧ Below w.heap.size w w' := by
  have hco := fun W => contains_any s' h' l' b' s h l W uh ul hc
  have b0 : ((w.alloc (pfBox s h l b)).alloc (pfBox s' h' l' b')).heap[w.heap.size]? = some (pfBox s h l b) := (heap_alloc_old _ _ (by simp)).trans (heap_alloc_new w _)
  have b1 : ((w.alloc (pfBox s h l b)).alloc (pfBox s' h' l' b')).heap[w.heap.size + 1]? = some (pfBox s' h' l' b') := by
    have := heap_alloc_new (w.alloc (pfBox s h l b)) (pfBox s' h' l' b')
    simp only [Re_size] at this
    exact this
  obtain ⟨⟨x0, x1, x2, x3⟩, -⟩ := res4 b0
  obtain ⟨⟨y0, y1, y2, y3⟩, -⟩ := res4 b1
  have HB := Lib.hid (((Below.refl w.heap.size w).alloc (Nat.le_refl _) (pfBox s h l b)).alloc (by simp) (pfBox s' h' l' b'))
  unfold pfBox at x0 x1 x2 x3 y0 y1 y2 y3
  generalize contP s' h' l' b' s h l = cc at *
  clear b0 b1
  by_cases hbb : b' ≤ b
  · have e1 : decide (b' ≤ b) = true := decide_eq_true hbb
    rw [e1, Bool.true_and]
    clear hbb
    go_enter Tryz.func60, Tryz.ntmps60
    go_wp2_with fail
    generalize hW : World.alloc _ _ = W at x0 x1 x2 x3 y0 y1 y2 y3 ⊢
    have HBW : Hid (Below w.heap.size w W) := Lib.hid (by rw [← hW]; exact HB.out)
    clear hW HB
    refine (hco W).mono ?_
    rintro e w1 ⟨rfl, hb1⟩
    have HF := Lib.hid (HBW.out.trans (hb1.mono HBW.out.size))
    clear hb1 hco x0 x1 x2 x3 y0 y1 y2 y3
    go_wp2_with fail
    go_ret
    exact ⟨rfl, HF.out⟩
  · have e1 : decide (b' ≤ b) = false := decide_eq_false hbb
    rw [e1, Bool.false_and]
    clear hbb hco
    go_enter Tryz.func60, Tryz.ntmps60
    go_wp2_with fail
    go_ret
    exact ⟨rfl, HB.out⟩
end Go.Proofs.YtajifionclpphaaGreatDoor
