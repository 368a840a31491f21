/- lanekeep2's ready() is true. -/
import Derived.Test.YtcmfkheohhfpiaaGreatDoorRyE
import Derived.Test.YtcmfkheohhfpiaaGreatDoorPjB
import Derived.Test.YtcmfkheohhfpiaaGreatDoorMdC
namespace Go.Proofs.YtcmfkheohhfpiaaGreatDoor
open Go.RowKit Go.Hw Go.Shelf

theorem med_three : med [1, 2, 9] = 4 := by
  have h : srt [1, 2, 9] = [1, 2, 9] := srt_uniq (by decide) (List.Perm.refl _)
  unfold med
  rw [h]
  rfl
theorem frac_three : fracV (med [1, 2, 9]).toNat 2 = .agg #[.int .i64 2, .int .i64 1] := by
  rw [med_three]
  rfl
set_option maxRecDepth 100000 in
set_option maxHeartbeats 4000000 in
theorem ready2 (w : World) (hm : MxW w) : Calls Tryz.prog 18 #[] w fun e w' => e = .returned (.bool true) ∧ Below w.heap.size w w' := by
  have HM := Lib.hid hm
  clear hm
  go_enter Tryz.func18, Tryz.ntmps18
  go_wp2_with fail
  refine (text_one _).mono ?_
  rintro e w1 ⟨rfl, hb⟩
  have HB := Lib.hid hb
  have HM := Lib.hid (HM.out.below hb)
  clear hb
  go_wp2_with fail
  refine (read_one _ HM.out).mono ?_
  rintro e w2 ⟨gb, cg, rfl, hb⟩
  have HB := Lib.hid (HB.out.trans (hb.mono HB.out.size))
  clear hb HM
  go_wp2_with fail
  have hC := (CA.made w2 [.slice none 0 0, .slice none 0 0, .slice (some ⟨gb, 0, none⟩) 1 cg, .slice none 0 0] 78).alloc (.cells #[.int .i64 1, .int .i64 2, .int .i64 9] 3)
  have hL := CA.made (w2.alloc (.cells #[.slice none 0 0, .slice none 0 0, .slice (some ⟨gb, 0, none⟩) 1 cg, .slice none 0 0] 78)) [.int .i64 1, .int .i64 2, .int .i64 9] 3
  have hz : (w2.alloc (.cells #[.slice none 0 0, .slice none 0 0, .slice (some ⟨gb, 0, none⟩) 1 cg, .slice none 0 0] 78)).heap.size = w2.heap.size + 1 := by simp
  rw [hz] at hL
  have HB := Lib.hid ((HB.out.alloc HB.out.size (.cells #[.slice none 0 0, .slice none 0 0, .slice (some ⟨gb, 0, none⟩) 1 cg, .slice none 0 0] 78)).alloc (by rw [hz]; have := HB.out.size; omega) (.cells #[.int .i64 1, .int .i64 2, .int .i64 9] 3))
  have hIs : IsAt ((w2.alloc (.cells #[.slice none 0 0, .slice none 0 0, .slice (some ⟨gb, 0, none⟩) 1 cg, .slice none 0 0] 78)).alloc (.cells #[.int .i64 1, .int .i64 2, .int .i64 9] 3)) (some ⟨w2.heap.size + 1, 0, none⟩) [1, 2, 9] := by
    intro i hi
    refine ⟨_, 0, rfl, hL.1, ?_⟩
    rw [Nat.zero_add]
    refine hL.2 i _ ?_
    match i, hi with
    | 0, _ => rfl
    | 1, _ => rfl
    | 2, _ => rfl
  refine (Median_any (some ⟨w2.heap.size + 1, 0, none⟩) 3 [1, 2, 9] _ hIs (by decide) (by decide) (by decide)).mono ?_
  rw [frac_three]
  rintro e w3 ⟨rfl, hb⟩
  have HC := Lib.hid (hC.below hb)
  have HB := Lib.hid (HB.out.trans (hb.mono HB.out.size))
  generalize w2.heap.size = B2 at *
  clear hC hL hz hIs hb
  go_wp2_with fail
  have hF := (CA.made w3 [.int .i64 2, .int .i64 1] 82).alloc (.cells #[.string ⟨#[97]⟩] 9)
  have hS := CA.made (w3.alloc (.cells #[.int .i64 2, .int .i64 1] 82)) [.string ⟨#[97]⟩] 9
  have hz : (w3.alloc (.cells #[.int .i64 2, .int .i64 1] 82)).heap.size = w3.heap.size + 1 := by simp
  rw [hz] at hS
  have HC := Lib.hid ((HC.out.alloc (.cells #[.int .i64 2, .int .i64 1] 82)).alloc (.cells #[.string ⟨#[97]⟩] 9))
  have HB := Lib.hid ((HB.out.alloc HB.out.size (.cells #[.int .i64 2, .int .i64 1] 82)).alloc (by rw [hz]; have := HB.out.size; omega) (.cells #[.string ⟨#[97]⟩] 9))
  refine (join_one (w3.heap.size + 1) 1 _ hS.1 (hS.2 0 _ rfl)).mono ?_
  rintro e w4 ⟨xb, xc, rfl, hb⟩
  have hC := (HC.out.below hb).alloc (.cells #[.slice (some ⟨xb, 0, none⟩) 1 xc, .slice none 0 0, .bool false, .bool false, .bool false, .string ⟨#[]⟩, .string ⟨#[]⟩, .string ⟨#[]⟩, .slice none 0 0, .slice none 0 0, .slice none 0 0, .slice none 0 0, .string ⟨#[]⟩] 92)
  have hF := (hF.below hb).alloc (.cells #[.slice (some ⟨xb, 0, none⟩) 1 xc, .slice none 0 0, .bool false, .bool false, .bool false, .string ⟨#[]⟩, .string ⟨#[]⟩, .string ⟨#[]⟩, .slice none 0 0, .slice none 0 0, .slice none 0 0, .slice none 0 0, .string ⟨#[]⟩] 92)
  have hX := CA.made w4 [.slice (some ⟨xb, 0, none⟩) 1 xc, .slice none 0 0, .bool false, .bool false, .bool false, .string ⟨#[]⟩, .string ⟨#[]⟩, .string ⟨#[]⟩, .slice none 0 0, .slice none 0 0, .slice none 0 0, .slice none 0 0, .string ⟨#[]⟩] 92
  have HB := Lib.hid (HB.out.trans (hb.mono HB.out.size))
  have HB := Lib.hid (HB.out.alloc HB.out.size (.cells #[.slice (some ⟨xb, 0, none⟩) 1 xc, .slice none 0 0, .bool false, .bool false, .bool false, .string ⟨#[]⟩, .string ⟨#[]⟩, .string ⟨#[]⟩, .slice none 0 0, .slice none 0 0, .slice none 0 0, .slice none 0 0, .string ⟨#[]⟩] 92))
  have HC := Lib.hid hC
  have HF := Lib.hid hF
  have HX := Lib.hid hX
  have c2 := hC.2 2 _ rfl
  have f0 := hF.2 0 _ rfl
  have x0 := hX.2 0 _ rfl
  have lC := hC.1
  have lF := hF.1
  have lX := hX.1
  clear hC hF hX hS hz hb
  generalize w3.heap.size = B3 at *
  go_wp2_with fail
  have hU := blk_two (w := w4) (.cells #[.slice (some ⟨xb, 0, none⟩) 1 xc, .slice none 0 0, .bool false, .bool false, .bool false, .string ⟨#[]⟩, .string ⟨#[]⟩, .string ⟨#[]⟩, .slice none 0 0, .slice none 0 0, .slice none 0 0, .slice none 0 0, .string ⟨#[]⟩] 92) (.cells #[.int .u8 0, .int .u8 1] 5) rfl
  refine (sumF_any _ _ hU).mono ?_
  rintro e w5 ⟨rfl, hb⟩
  have HB := Lib.hid ((HB.out.alloc HB.out.size (.cells #[.int .u8 0, .int .u8 1] 5)))
  have HB := Lib.hid (HB.out.trans (hb.mono HB.out.size))
  clear hU hb
  go_wp2_with fail
  go_ret
  exact ⟨rfl, HB.out⟩
end Go.Proofs.YtcmfkheohhfpiaaGreatDoor
