/- name.BackTo of an address of four parts: BaG's walk with the other constants. -/
import Derived.Test.YtompamkhjikjlaaGreatDoorBaG
namespace Go.Proofs.YtompamkhjikjlaaGreatDoor
open Go.RowKit Go.Hw Go.Shelf Go.Sort

theorem four_hi {h l : Nat} (hh : h * 2 ^ 8 < 18446744073709551616) (hl : l < 18446744073709551616) : bits .or .u64 (IntKind.u64.wrap ((h : Int) * 256)) ((l : Int) / 72057594037927936) = ((h * 2 ^ 8 + l / 2 ^ (64 - 8) : Nat) : Int) := by
  have e1 : IntKind.u64.wrap ((h : Int) * 256) = ((h * 2 ^ 8 : Nat) : Int) := by rw [IntKind.wrap_u64]; omega
  have e2 : (l : Int) / 72057594037927936 = ((l / 2 ^ (64 - 8) : Nat) : Int) := by omega
  rw [e1, e2]
  exact shift_hi (by omega) hl hh
theorem four_lo {l D : Nat} (hD : D < 256) : bits .or .u64 (IntKind.u64.wrap ((l : Int) * 256)) (D : Int) = ((l * 2 ^ 8 % 18446744073709551616 + D : Nat) : Int) := by
  have e1 : IntKind.u64.wrap ((l : Int) * 256) = ((l * 2 ^ 8 % 18446744073709551616 : Nat) : Int) := by rw [IntKind.wrap_u64]; omega
  rw [e1]
  exact shift_lo (by omega) hD (by omega)

set_option maxRecDepth 100000 in
set_option maxHeartbeats 4000000 in
theorem backTo_four (lo : Nat) (hl : lo < 4294967296) (w : World) (V : NmVars w) :
    Calls Tryz.prog 6 #[.string (toB (backB false (adN false 0 lo)))] w fun e w' => e = .returned (.tuple #[.agg #[.bool false, .int .u64 0, .int .u64 lo], .bool true, .int .i64 0]) ∧ Below w.heap.size w w' := by
  generalize hN : adN false 0 lo = N
  have HN := Lib.hid hN
  have hNb : N < 18446744073709551616 * 18446744073709551616 := by rw [← hN]; unfold adN; simp; omega
  have hNm : N < 2 ^ (8 * 4) := by rw [← hN]; exact hl
  have HEND := Lib.hid (stN_pair (e := 8) (m := 4) (N := N) (hi := 0) (lo := lo) (by omega) (by rw [← hN]; simp [adN]) (by omega) (by omega) hNm)
  have HBACK := Lib.hid fun W (V' : NmVars W) => (show Calls Tryz.prog 11 #[.agg #[.bool false, .int .u64 0, .int .u64 lo]] W fun e w' => e = .returned (.string (toB (backB false N))) ∧ Below W.heap.size W w' from hN ▸ backIn_any false 0 lo ⟨by omega, by omega, fun _ => ⟨rfl, hl⟩⟩ W V')
  have HFIT := Lib.hid fun k (hk : k < 4) => stN_fit (e := 8) (m := 4) (by omega) hNb hNm hk
  have HV := Lib.hid V
  have hcut := cut_own false N
  have hrest := rest_any false N
  have hdom := domain_any false N
  have hlen := back_len false N
  have hrev := rev_any (backL false N) (by rw [hlen]; simp)
  rw [hlen] at hrev hrest
  clear hN V hNb hNm
  have HA := Lib.hid ((Below.refl w.heap.size w).alloc (Nat.le_refl _) (.cells #[.bool false, .int .u64 0, .int .u64 0] 28))
  have HX : Hid ((w.alloc (.cells #[.bool false, .int .u64 0, .int .u64 0] 28)).heap[w.heap.size]? = some (.cells #[.bool false, .int .u64 0, .int .u64 0] 28 (0, 0))) := Lib.hid (heap_alloc_new _ _)
  go_enter Tryz.func6, Tryz.ntmps6
  go_wp2_with fail
  generalize w.alloc _ = W1 at *
  refine (hdom W1 (HV.out.below HA.out (Nat.le_refl _))).mono ?_
  rintro e W2 ⟨rfl, hb2⟩
  have HB2 := Lib.hid (HA.out.trans (hb2.mono HA.out.size))
  have HX2 := Lib.hid ((hb2.block _ (Array.getElem?_eq_some_iff.1 HX.out).1).trans HX.out)
  clear hb2 HA HX hdom
  go_wp2_with fail
  refine (cut_not N W2).mono ?_
  rintro e w' ⟨⟨r, rfl⟩, rfl⟩
  go_wp2_with fail
  refine (hcut _).mono ?_
  rintro e w' ⟨rfl, rfl⟩
  go_wp2_with fail
  refine (hrest _ (HV.out.below HB2.out (Nat.le_refl _))).mono ?_
  rintro e W3 ⟨rfl, rfl⟩
  go_wp2_with fail
  refine (hrev w').mono ?_
  rintro e W4 ⟨rfl, hb4, hlt4, hc4⟩
  have HB4 := Lib.hid (HB2.out.trans (hb4.mono HB2.out.size))
  have HX4 := Lib.hid ((hb4.block _ (Array.getElem?_eq_some_iff.1 HX2.out).1).trans HX2.out)
  have HC4 : Hid (∀ j, j < 4 → W4.cell? ⟨w'.heap.size, j, none⟩ = some (.string (toB (Lib.decDigits (digitAt 8 N (4 - 1 - j)))))) := Lib.hid fun j hj => hc4 j _ (by rw [back_rev_four]; simp [hj])
  have HG := Lib.hid hlt4
  clear hb4 hlt4 hc4 hrev hrest hcut
  go_wp2_with fail
  have hI0 : BtI w false 8 4 N w'.heap.size W4.heap.size (fun j => Lib.decDigits (digitAt 8 N (4 - 1 - j))) 0 (W4.alloc (.cells #[.bool false, .int .u64 0, .int .u64 0] 28)) := by
    refine ⟨HB4.out.alloc HB4.out.size _, ?_, ?_, heap_alloc_new _ _⟩
    · rw [Below.heap_alloc _ _ _ (Array.getElem?_eq_some_iff.1 HX4.out).1]; exact HX4.out
    · intro j hj
      exact (World.cell?_of_block (Below.heap_alloc W4 _ _ HG.out)).trans (HC4.out j hj)
  have HI0 := Lib.hid hI0
  have hwB : Hid (w.heap.size < W4.heap.size) := Lib.hid (Array.getElem?_eq_some_iff.1 HX4.out).1
  generalize W4.alloc _ = W5 at *
  generalize W4.heap.size = B at *
  generalize w'.heap.size = g at *
  clear hI0 HC4 HB4 HX4
  go_loopw [43] (fun v43 wr => ∃ k : Nat, k ≤ 4 ∧ v43 = .int .i64 k ∧ BtI w false 8 4 N g B (fun j => Lib.decDigits (digitAt 8 N (4 - 1 - j))) k wr) (fun v43 _ => 4 - (intOf v43).toNat)
  case atStart => exact ⟨0, by omega, rfl, HI0.out⟩
  case round =>
    obtain ⟨k, hk, rfl, hit⟩ := hrel
    by_cases hlt : k < 4
    · have hrow := hit.rows k hlt
      have hd : digitAt 8 N (4 - 1 - k) < 256 := digit_lt 8 N _
      have hparse := parse10_any _ hd wr
      have HI := Lib.hid hit
      generalize hD : digitAt 8 N (4 - 1 - k) = D at *
      have HD := Lib.hid hD
      clear hit hD
      go_wp2_with fail
      refine hparse.mono ?_
      rintro e W6 ⟨rfl, hb6⟩
      clear hparse hrow
      have HB6 := Lib.hid hb6
      have hnum := (hb6.block _ (Array.getElem?_eq_some_iff.1 HI.out.num).1).trans HI.out.num
      generalize hst : stN 8 4 N k = st at *
      obtain ⟨h, l⟩ := st
      obtain ⟨x0, x1, x2, f0, f1, f2⟩ := res3 hnum
      have hfit := HFIT.out k hlt
      rw [hst] at hfit
      have hA := four_hi hfit.1 hfit.2
      have hL := four_lo (l := l) hd
      obtain ⟨h', eh⟩ : ∃ h', h' = h * 2 ^ 8 + l / 2 ^ (64 - 8) := ⟨_, rfl⟩
      obtain ⟨l', el⟩ : ∃ l', l' = l * 2 ^ 8 % 18446744073709551616 + D := ⟨_, rfl⟩
      rw [← eh] at hA
      rw [← el] at hL
      have hs' : stN 8 4 N (k + 1) = (h', l') := by rw [stN_succ, hst, HD.out, eh, el]; rfl
      have HREL : Hid (BtI w false 8 4 N g B (fun j => Lib.decDigits (digitAt 8 N (4 - 1 - j))) (k + 1) ((W6.setCell ⟨B, 1, none⟩ (.int .u64 h')).setCell ⟨B, 2, none⟩ (.int .u64 l')).drew) := Lib.hid (HI.out.step (by have := HG.out; omega) hwB.out HB6.out hs')
      clear hst hnum hb6 hfit eh el hs'
      go_wp2_with fail
      have hw56 : IntKind.i64.wrap 56 = 56 := by decide
      go_region_law (go_simp)
      all_goals (try simp only [hA, hL])
      all_goals clear hA hL x0 x1 x2 f0 f1 f2
      all_goals go_wp2_with fail
      all_goals exact ⟨⟨k + 1, by omega, by simp, HREL.out⟩, by simp [intOf]; omega⟩
    · obtain rfl : k = 4 := by omega
      clear hlt
      have HI := Lib.hid hit
      have hnum := hit.num
      rw [HEND.out] at hnum
      obtain ⟨x0, x1, x2, f0, f1, f2⟩ := res3 hnum
      have HNUM := Lib.hid hnum
      have hck := checkAddr_any false 0 lo wr (by omega)
      rw [show addrCode false 0 lo = 0 from by unfold addrCode; rw [if_neg]; omega] at hck
      clear hit hnum
      go_wp2_with fail
      refine hck.mono ?_
      rintro e W7 ⟨rfl, hb7⟩
      have HB7 := Lib.hid (HI.out.low.trans (hb7.mono HI.out.low.size))
      have HNUM7 := Lib.hid ((hb7.block _ (Array.getElem?_eq_some_iff.1 HNUM.out).1).trans HNUM.out)
      have HOUT7 := Lib.hid ((hb7.block _ (Array.getElem?_eq_some_iff.1 HI.out.out).1).trans HI.out.out)
      clear hck hb7 x0 x1 x2 f0 f1 f2
      obtain ⟨x0, x1, x2, f0, f1, f2⟩ := res3 HNUM7.out
      go_wp2_with fail
      refine (HBACK.out W7 (HV.out.below HB7.out (Nat.le_refl _))).mono ?_
      rintro e W8 ⟨rfl, hb8⟩
      have HB8 := Lib.hid (HB7.out.trans (hb8.mono HB7.out.size))
      have HNUM8 := Lib.hid ((hb8.block _ (Array.getElem?_eq_some_iff.1 HNUM7.out).1).trans HNUM7.out)
      have HOUT8 := Lib.hid ((hb8.block _ (Array.getElem?_eq_some_iff.1 HOUT7.out).1).trans HOUT7.out)
      clear hb8 x0 x1 x2 f0 f1 f2
      obtain ⟨x0, x1, x2, f0, f1, f2⟩ := res3 HNUM8.out
      obtain ⟨y0, y1, y2, k0, k1, k2⟩ := res3 HOUT8.out
      go_wp2_with fail
      have h9 := set_three HOUT8.out (u0 := .bool false) (u1 := .int .u64 0) (u2 := .int .u64 lo)
      have hb9 : Below w.heap.size w (((W8.setCell ⟨w.heap.size, 0, none⟩ (.bool false)).setCell ⟨w.heap.size, 1, none⟩ (.int .u64 0)).setCell ⟨w.heap.size, 2, none⟩ (.int .u64 lo)) := ((HB8.out.setCell (by simp) _).setCell (by simp) _).setCell (by simp) _
      generalize ((W8.setCell _ _).setCell _ _).setCell _ _ = W9 at *
      clear x0 x1 x2 f0 f1 f2 y0 y1 y2 k0 k1 k2
      obtain ⟨y0, y1, y2, k0, k1, k2⟩ := res3 h9
      refine bodyPost_ret (v := .tuple #[.agg #[.bool false, .int .u64 0, .int .u64 lo], .bool true, .int .i64 0]) (by simp [results, Tryz.results6, go_sem, y0, y1, y2]) rfl ⟨rfl, hb9⟩
end Go.Proofs.YtompamkhjikjlaaGreatDoor
