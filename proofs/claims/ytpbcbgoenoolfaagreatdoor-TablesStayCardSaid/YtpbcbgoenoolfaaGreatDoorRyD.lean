/- lanekeep2's ready(): rule.readGrant at what it reads. -/
import Derived.Test.YtpbcbgoenoolfaaGreatDoorRyC
import Derived.OwnWalk
namespace Go.Proofs.YtpbcbgoenoolfaaGreatDoor
open Go.RowKit Go.Hw Go.Shelf

theorem Tryz.infoWhat : (Tryz.prog.info? 226).map (fun i => (i.zero, i.size, i.bytes)) = some (some (.agg #[.int .i64 0, .string ⟨#[]⟩, .bool false, .int .u64 0, .int .u64 0, .int .i64 0]), 6, 56) := by kernel_rfl
theorem Tryz.infoTarget : (Tryz.prog.info? 230).map (fun i => (i.zero, i.size, i.bytes)) = some (some (.agg #[.int .i64 0, .string ⟨#[]⟩, .bool false, .int .u64 0, .int .u64 0, .int .i64 0, .int .i64 0, .int .i64 0]), 8, 72) := by kernel_rfl
theorem Tryz.infoGrant : (Tryz.prog.info? 168).map (fun i => (i.zero, i.size, i.bytes)) = some (some (.agg #[.slice none 0 0, .slice none 0 0, .int .i64 0, .slice none 0 0]), 4, 80) := by kernel_rfl
def wordsV : List Value := [.string ⟨#[97, 108, 108, 111, 119]⟩, .string ⟨#[42]⟩, .string ⟨#[45, 62]⟩, .string ⟨#[42]⟩]
theorem own_ca {w : World} {base : Nat} {T : TypeId} {size g cap n : Nat} {vs : List Value} (h : w.ownsRow base T size (.slice (some ⟨g, 0, none⟩) n cap) n vs) : CA w g vs := by
  refine ⟨(h.lt g rfl).2, fun j u hu => ?_⟩
  have := h.cells (g := g) rfl j u hu
  have hadd : (⟨g, 0, none⟩ : Addr).add j = ⟨g, j, none⟩ := by unfold Addr.add; split <;> simp_all
  rwa [hadd] at this
/-- A row that has grown from nothing. -/
theorem own_one {w : World} {base : Nat} {T : TypeId} {size n : Nat} {v : Value} {vs : List Value} (h : w.ownsRow base T size v n vs) (hn : 0 < n) : ∃ g cap, v = .slice (some ⟨g, 0, none⟩) n cap ∧ CA w g vs ∧ base ≤ g := by
  rcases h.2 with ⟨_, h2⟩ | ⟨g, cap, cur, h1, _⟩
  · omega
  · subst h1
    exact ⟨g, cap, rfl, own_ca h, (h.lt g rfl).1⟩
theorem CA.grown {w w' : World} {b : Nat} {vs : List Value} {row : Option Nat} (h : CA w b vs) (hg : w.grownBy w' row) (hne : some b ≠ row) : CA w' b vs := ⟨Nat.lt_of_lt_of_le h.1 hg.size, fun j u hu => (World.cell?_of_block (hg.block b h.1 hne)).trans (h.2 j u hu)⟩
theorem CA.set {w : World} {b g : Nat} {vs : List Value} (h : CA w b vs) (hne : b ≠ g) (j : Nat) (u : Value) : CA (w.setCell ⟨g, j, none⟩ u) b vs := ⟨by simpa using h.1, fun i x hx => (World.cell?_of_block (Below.heap_setCell w _ _ b hne)).trans (h.2 i x hx)⟩

theorem MxW.grownN {w w' : World} (h : MxW w) (hg : w.grownBy w' none) : MxW w' := h.below ((Below.refl _ _).grown hg (Nat.le_refl _) (fun j e => by cases e))
theorem MxW.set {w : World} {g : Nat} (h : MxW w) (hne : 0 ≠ g) (j : Nat) (u : Value) : MxW (w.setCell ⟨g, j, none⟩ u) := let ⟨m, hm⟩ := h; ⟨m, (World.cell?_of_block (Below.heap_setCell w _ _ _ hne)).trans hm⟩
theorem below_put {w0 w : World} {B g : Nat} (h : Below B w0 w) (hB : B ≤ w.heap.size) (hg : B ≤ g) (j : Nat) (u : Value) : Below B w0 (w.setCell ⟨g, j, none⟩ u) :=
  h.grown (row := some g) ⟨rfl, rfl, rfl, by simp, fun i _ hi => Below.heap_setCell w _ _ i (fun e => hi (by rw [e]))⟩ hB (fun j e => by injection e with e; omega)
set_option maxRecDepth 100000 in
set_option maxHeartbeats 4000000 in
theorem readGrant_one (B : Nat) (w : World) (hw : CA w B wordsV) (hm : MxW w) :
    Calls Tryz.prog 95 #[.slice (some ⟨B, 1, none⟩) 3 3] w fun e w' => ∃ sb cs db cd, e = .returned (.tuple #[.agg #[.slice (some ⟨sb, 0, none⟩) 1 cs, .slice (some ⟨db, 0, none⟩) 1 cd, .int .i64 0, .slice none 0 0], .bool true]) ∧ CA w' sb starV ∧ CA w' db targV ∧ Below w.heap.size w w' ∧ w.heap.size < sb ∧ w.heap.size < db := by
  have hlB := hw.1
  have hlM := hm.lt
  obtain ⟨i0, hi, hz0, hz1, hz2⟩ := info_parts Tryz.infoWhat
  obtain ⟨k0, hki, kz0, kz1, kz2⟩ := info_parts Tryz.infoTarget
  have HZ : Obj := .cells #[.slice none 0 0, .slice none 0 0, .int .i64 0, .slice none 0 0] 168
  have h2 := blk_two (w := w) (.cells #[.slice none 0 0, .slice none 0 0, .int .i64 0, .slice none 0 0] 168) (.cells #[.slice none 0 0, .slice none 0 0, .int .i64 0, .slice none 0 0] 168) rfl
  have h1 := (heap_alloc_old (w.alloc (.cells #[.slice none 0 0, .slice none 0 0, .int .i64 0, .slice none 0 0] 168)) (.cells #[.slice none 0 0, .slice none 0 0, .int .i64 0, .slice none 0 0] 168) (show w.heap.size < _ by simp)).trans (heap_alloc_new w (.cells #[.slice none 0 0, .slice none 0 0, .int .i64 0, .slice none 0 0] 168))
  have hb := (below_alloc1 w (.cells #[.slice none 0 0, .slice none 0 0, .int .i64 0, .slice none 0 0] 168)).alloc (by simp) (.cells #[.slice none 0 0, .slice none 0 0, .int .i64 0, .slice none 0 0] 168)
  have HM := Lib.hid (hm.below hb)
  have HW := Lib.hid (hw.below hb)
  have HB := Lib.hid hb
  have H1 := Lib.hid h1
  have H2 := Lib.hid h2
  have e1 : (⟨#[45, 62]⟩ : ByteArray).toList = [45, 62] := by kernel_rfl
  obtain ⟨c0, c1, c2, c3⟩ := CA.c4 HW.out
  have lw := HW.out.1
  clear hm hw hb h1 h2 HZ
  go_enter Tryz.func95, Tryz.ntmps95
  go_wp2_with fail
  generalize World.alloc (World.alloc w _) _ = W0 at *
  have l1 := lt_of_block H1.out
  have l2 := lt_of_block H2.out
  obtain ⟨m0, hm0⟩ := HM.out
  have hs := Tryz.strings_Split ⟨#[42]⟩ ⟨#[44]⟩ m0 W0 (by decide) hm0 (by decide)
  rw [show Lib.countB (⟨#[42]⟩ : ByteArray) ⟨#[44]⟩ = 0 from split_star.1, show Lib.splitB ⟨#[44]⟩ 0 0 (⟨#[42]⟩ : ByteArray) = [⟨#[42]⟩] from split_star.2] at hs
  refine hs.mono ?_
  rintro e W1 ⟨rfl, hW1⟩
  have hb1 : Below W0.heap.size W0 W1 := by rw [hW1]; exact below_alloc1 _ _
  have HS := Lib.hid (show CA W1 W0.heap.size [.string ⟨#[42]⟩] by rw [hW1]; exact CA.made W0 [.string ⟨#[42]⟩] _)
  have H1 := Lib.hid ((hb1.block _ l1).trans H1.out)
  have H2 := Lib.hid ((hb1.block _ l2).trans H2.out)
  have HM := Lib.hid (HM.out.below hb1)
  have HW := Lib.hid (HW.out.below hb1)
  have HB := Lib.hid (HB.out.trans (hb1.mono HB.out.size))
  have hsz1 := hb1.size
  have s0 := HS.out.2 0 _ rfl
  have ls := HS.out.1
  clear hs hm0 hW1 hb1 c0 c1 c2 c3 l1 l2
  have l1 := lt_of_block H1.out
  have l2 := lt_of_block H2.out
  go_wp2_with fail
  refine wp_loop_rounds 2 ?_
  rw [rounds_succ]
  go_wp2_with fail
  refine (readWhat_star W1).mono ?_
  rintro e W2 ⟨rfl, hb2⟩
  have H1 := Lib.hid ((hb2.block _ l1).trans H1.out)
  have H2 := Lib.hid ((hb2.block _ l2).trans H2.out)
  have HM := Lib.hid (HM.out.below hb2)
  have HW := Lib.hid (HW.out.below hb2)
  have HB := Lib.hid (HB.out.trans (hb2.mono HB.out.size))
  clear l1 l2 s0 ls HS hsz1 hb2 lw
  have l1 := lt_of_block H1.out
  have l2 := lt_of_block H2.out
  have lw := HW.out.1
  have hB2 := HB.out.size
  have y0 := cell_of H2.out 0
  simp only [List.getElem?_toArray, List.getElem?_cons_zero] at y0
  have HOW := Lib.hid (World.ownsRow_nil (W2.alloc (.cells #[.int .i64 1, .string ⟨#[]⟩, .bool false, .int .u64 0, .int .u64 0, .int .i64 0] 226)) W2.heap.size 226 6)
  have hzA : (W2.alloc (.cells #[.int .i64 1, .string ⟨#[]⟩, .bool false, .int .u64 0, .int .u64 0, .int .i64 0] 226)).heap.size = W2.heap.size + 1 := by simp
  have H1A := Lib.hid ((heap_alloc_old W2 (.cells #[.int .i64 1, .string ⟨#[]⟩, .bool false, .int .u64 0, .int .u64 0, .int .i64 0] 226) l1).trans H1.out)
  have H2A := Lib.hid ((heap_alloc_old W2 (.cells #[.int .i64 1, .string ⟨#[]⟩, .bool false, .int .u64 0, .int .u64 0, .int .i64 0] 226) l2).trans H2.out)
  have HMA := Lib.hid (HM.out.below (below_alloc1 W2 (.cells #[.int .i64 1, .string ⟨#[]⟩, .bool false, .int .u64 0, .int .u64 0, .int .i64 0] 226)))
  have HWA := Lib.hid (HW.out.below (below_alloc1 W2 (.cells #[.int .i64 1, .string ⟨#[]⟩, .bool false, .int .u64 0, .int .u64 0, .int .i64 0] 226)))
  have HBA := Lib.hid (HB.out.alloc HB.out.size (.cells #[.int .i64 1, .string ⟨#[]⟩, .bool false, .int .u64 0, .int .u64 0, .int .i64 0] 226))
  have yA := (World.cell?_alloc_lt W2 (.cells #[.int .i64 1, .string ⟨#[]⟩, .bool false, .int .u64 0, .int .u64 0, .int .i64 0] 226) ⟨w.heap.size + 1, 0, none⟩ l2).trans y0
  clear H1 H2 HM HW HB
  have HQA := Lib.hid (CA.made W2 starV 226)
  unfold starV at HQA
  obtain ⟨x0, x1, x2, x3, x4, x5⟩ := CA.c6 HQA.out
  have HZA := Lib.hid hzA
  clear hzA
  go_upto_region 10 with (fail)
  generalize World.alloc W2 _ = WA at *
  have lA1 := lt_of_block H1A.out
  have lA2 := lt_of_block H2A.out
  have HL2 := Lib.hid l2
  clear y0 l1 l2
  go_wp2_with (at_builtin; refine wpList_append_own _ rfl (.tmp 46) (.tmp 48) 165 rfl W2.heap.size 226 i0 (.agg #[.int .i64 0, .string ⟨#[]⟩, .bool false, .int .u64 0, .int .u64 0, .int .i64 0]) 6 56 Tryz.underlying165 hi hz0 hz1 hz2 rfl (by decide) _ _ _ rfl (HOW.out.alloc _) ⟨WA.heap.size, 0, none⟩ 1 1 [.int .i64 1, .string ⟨#[]⟩, .bool false, .int .u64 0, .int .u64 0, .int .i64 0] rfl rfl ?a1 ?a2 ?a3 ?a4 ?a5 ?_)
  case a1 => exact cells_new WA [.int .i64 1, .string ⟨#[]⟩, .bool false, .int .u64 0, .int .u64 0, .int .i64 0] _
  case a2 => simp [Value.oneCell']
  case a3 => unfold maxLen; omega
  case a4 => omega
  case a5 => have := HZA.out; simp; omega
  intro v3 W3 ho3 hg3 _
  obtain ⟨sb, cs, rfl, hsb, hsb2⟩ := own_one ho3 (by omega)
  have H1 := Lib.hid ((hg3.block _ (by simp; omega) (fun e => by cases e)).trans ((heap_alloc_old WA (.cells #[.int .i64 1, .string ⟨#[]⟩, .bool false, .int .u64 0, .int .u64 0, .int .i64 0] 226) lA1).trans H1A.out))
  have H2 := Lib.hid ((hg3.block _ (by simp; omega) (fun e => by cases e)).trans ((heap_alloc_old WA (.cells #[.int .i64 1, .string ⟨#[]⟩, .bool false, .int .u64 0, .int .u64 0, .int .i64 0] 226) lA2).trans H2A.out))
  have HM := Lib.hid ((HMA.out.below (below_alloc1 WA (.cells #[.int .i64 1, .string ⟨#[]⟩, .bool false, .int .u64 0, .int .u64 0, .int .i64 0] 226))).grownN hg3)
  have HW := Lib.hid ((HWA.out.alloc (.cells #[.int .i64 1, .string ⟨#[]⟩, .bool false, .int .u64 0, .int .u64 0, .int .i64 0] 226)).grown hg3 (fun e => by cases e))
  have HB := Lib.hid ((HBA.out.alloc HBA.out.size (.cells #[.int .i64 1, .string ⟨#[]⟩, .bool false, .int .u64 0, .int .u64 0, .int .i64 0] 226)).grown hg3 (by have := HBA.out.size; simp; omega) (fun j e => by cases e))
  have HSB := Lib.hid hsb
  have hsz3 := hg3.size
  have l2 := lt_of_block H2.out
  have y0 := cell_of H2.out 0
  have yf := eightF H2.out 0
  simp only [List.getElem?_toArray, List.getElem?_cons_zero] at y0
  clear ho3 hg3 hsb H1A H2A HMA HWA HBA HQA HOW x0 x1 x2 x3 x4 x5 yA lA1 lA2
  go_wp2_with fail
  have hne : sb ≠ w.heap.size + 1 := by have := HL2.out; omega
  have hsbn : w.heap.size + 1 < sb := by have := HL2.out; omega
  have H2n := Lib.hid (heap_set H2.out 0 (.slice (some ⟨sb, 0, none⟩) 1 cs))
  have H1n := Lib.hid ((Below.heap_setCell W3 ⟨w.heap.size + 1, 0, none⟩ (.slice (some ⟨sb, 0, none⟩) 1 cs) w.heap.size (by simp)).trans H1.out)
  have HBn := Lib.hid (below_put HB.out HB.out.size (show w.heap.size ≤ w.heap.size + 1 by omega) 0 (.slice (some ⟨sb, 0, none⟩) 1 cs))
  have HWn := Lib.hid (HW.out.set (g := w.heap.size + 1) (by omega) 0 (.slice (some ⟨sb, 0, none⟩) 1 cs))
  have HSBn := Lib.hid (HSB.out.set (g := w.heap.size + 1) hne 0 (.slice (some ⟨sb, 0, none⟩) 1 cs))
  have HMn := Lib.hid (HM.out.set (g := w.heap.size + 1) (by omega) 0 (.slice (some ⟨sb, 0, none⟩) 1 cs))
  clear H1 H2 HB HW HSB HM y0 yf l2 lw hne
  generalize hW : World.setCell W3 _ _ = W4 at *
  clear hW
  rw [rounds_succ]
  obtain ⟨c0, c1, c2, c3⟩ := CA.c4 HWn.out
  have lw := HWn.out.1
  go_wp2_with fail
  have l1 := lt_of_block H1n.out
  have l2 := lt_of_block H2n.out
  obtain ⟨m0, hm0⟩ := HMn.out
  have hs := Tryz.strings_Split ⟨#[42]⟩ ⟨#[44]⟩ m0 W4 (by decide) hm0 (by decide)
  rw [show Lib.countB (⟨#[42]⟩ : ByteArray) ⟨#[44]⟩ = 0 from split_star.1, show Lib.splitB ⟨#[44]⟩ 0 0 (⟨#[42]⟩ : ByteArray) = [⟨#[42]⟩] from split_star.2] at hs
  refine hs.mono ?_
  rintro e W5 ⟨rfl, hW1⟩
  have hb1 : Below W4.heap.size W4 W5 := by rw [hW1]; exact below_alloc1 _ _
  have HS := Lib.hid (show CA W5 W4.heap.size [.string ⟨#[42]⟩] by rw [hW1]; exact CA.made W4 [.string ⟨#[42]⟩] _)
  have H1 := Lib.hid ((hb1.block _ l1).trans H1n.out)
  have H2 := Lib.hid ((hb1.block _ l2).trans H2n.out)
  have HM := Lib.hid (HMn.out.below hb1)
  have HB := Lib.hid (HBn.out.trans (hb1.mono HBn.out.size))
  have HSB := Lib.hid (HSBn.out.below hb1)
  have s0 := HS.out.2 0 _ rfl
  have ls := HS.out.1
  clear hs hm0 hW1 hb1 c0 c1 c2 c3 l1 l2 H1n H2n HMn HBn HWn HSBn lw
  have l1 := lt_of_block H1.out
  have l2 := lt_of_block H2.out
  go_wp2_with fail
  refine wp_loop_rounds 2 ?_
  rw [rounds_succ]
  go_wp2_with fail
  refine (readTarget_star W5 HM.out).mono ?_
  rintro e W6 ⟨rfl, hb2⟩
  have H1 := Lib.hid ((hb2.block _ l1).trans H1.out)
  have H2 := Lib.hid ((hb2.block _ l2).trans H2.out)
  have HB := Lib.hid (HB.out.trans (hb2.mono HB.out.size))
  have HSB := Lib.hid (HSB.out.below hb2)
  clear l1 l2 s0 ls HS hb2 HM
  have l1 := lt_of_block H1.out
  have l2 := lt_of_block H2.out
  have y1 := cell_of H2.out 1
  simp only [List.getElem?_toArray, List.getElem?_cons_zero, List.getElem?_cons_succ, List.setIfInBounds_toArray, List.set_cons_zero] at y1
  have HOW := Lib.hid (World.ownsRow_nil (W6.alloc (.cells #[.int .i64 1, .string ⟨#[]⟩, .bool false, .int .u64 0, .int .u64 0, .int .i64 0, .int .i64 0, .int .i64 65535] 230)) W6.heap.size 230 8)
  have HZA := Lib.hid (show (W6.alloc (.cells #[.int .i64 1, .string ⟨#[]⟩, .bool false, .int .u64 0, .int .u64 0, .int .i64 0, .int .i64 0, .int .i64 65535] 230)).heap.size = W6.heap.size + 1 by simp)
  have H1A := Lib.hid ((heap_alloc_old W6 (.cells #[.int .i64 1, .string ⟨#[]⟩, .bool false, .int .u64 0, .int .u64 0, .int .i64 0, .int .i64 0, .int .i64 65535] 230) l1).trans H1.out)
  have H2A := Lib.hid ((heap_alloc_old W6 (.cells #[.int .i64 1, .string ⟨#[]⟩, .bool false, .int .u64 0, .int .u64 0, .int .i64 0, .int .i64 0, .int .i64 65535] 230) l2).trans H2.out)
  have HBA := Lib.hid (HB.out.alloc HB.out.size (.cells #[.int .i64 1, .string ⟨#[]⟩, .bool false, .int .u64 0, .int .u64 0, .int .i64 0, .int .i64 0, .int .i64 65535] 230))
  have HSBA := Lib.hid (HSB.out.alloc (.cells #[.int .i64 1, .string ⟨#[]⟩, .bool false, .int .u64 0, .int .u64 0, .int .i64 0, .int .i64 0, .int .i64 65535] 230))
  have yA := (World.cell?_alloc_lt W6 (.cells #[.int .i64 1, .string ⟨#[]⟩, .bool false, .int .u64 0, .int .u64 0, .int .i64 0, .int .i64 0, .int .i64 65535] 230) ⟨w.heap.size + 1, 1, none⟩ l2).trans y1
  have HQA := Lib.hid (CA.made W6 targV 230)
  unfold targV at HQA
  obtain ⟨x0, x1, x2, x3, x4, x5, x6, x7⟩ := CA.c8 HQA.out
  have HL2 := Lib.hid l2
  clear H1 H2 HB HSB y1 l1 l2
  go_upto_region 18 with (fail)
  generalize World.alloc W6 _ = WB at *
  have lA1 := lt_of_block H1A.out
  have lA2 := lt_of_block H2A.out
  go_wp2_with (at_builtin; refine wpList_append_own _ rfl (.tmp 70) (.tmp 72) 166 rfl W6.heap.size 230 k0 (.agg #[.int .i64 0, .string ⟨#[]⟩, .bool false, .int .u64 0, .int .u64 0, .int .i64 0, .int .i64 0, .int .i64 0]) 8 72 Tryz.underlying166 hki kz0 kz1 kz2 rfl (by decide) _ _ _ rfl (HOW.out.alloc _) ⟨WB.heap.size, 0, none⟩ 1 1 [.int .i64 1, .string ⟨#[]⟩, .bool false, .int .u64 0, .int .u64 0, .int .i64 0, .int .i64 0, .int .i64 65535] rfl rfl ?b1 ?b2 ?b3 ?b4 ?b5 ?_)
  case b1 => exact cells_new WB [.int .i64 1, .string ⟨#[]⟩, .bool false, .int .u64 0, .int .u64 0, .int .i64 0, .int .i64 0, .int .i64 65535] _
  case b2 => simp [Value.oneCell']
  case b3 => unfold maxLen; omega
  case b4 => omega
  case b5 => have := HZA.out; simp; omega
  intro v3 W7 ho3 hg3 _
  obtain ⟨db, cd, rfl, hdb, hdb2⟩ := own_one ho3 (by omega)
  have H1 := Lib.hid ((hg3.block _ (by simp; omega) (fun e => by cases e)).trans ((heap_alloc_old WB (.cells #[.int .i64 1, .string ⟨#[]⟩, .bool false, .int .u64 0, .int .u64 0, .int .i64 0, .int .i64 0, .int .i64 65535] 230) lA1).trans H1A.out))
  have H2 := Lib.hid ((hg3.block _ (by simp; omega) (fun e => by cases e)).trans ((heap_alloc_old WB (.cells #[.int .i64 1, .string ⟨#[]⟩, .bool false, .int .u64 0, .int .u64 0, .int .i64 0, .int .i64 0, .int .i64 65535] 230) lA2).trans H2A.out))
  have HB := Lib.hid ((HBA.out.alloc HBA.out.size (.cells #[.int .i64 1, .string ⟨#[]⟩, .bool false, .int .u64 0, .int .u64 0, .int .i64 0, .int .i64 0, .int .i64 65535] 230)).grown hg3 (by have := HBA.out.size; simp; omega) (fun j e => by cases e))
  have HSB := Lib.hid ((HSBA.out.alloc (.cells #[.int .i64 1, .string ⟨#[]⟩, .bool false, .int .u64 0, .int .u64 0, .int .i64 0, .int .i64 0, .int .i64 65535] 230)).grown hg3 (fun e => by cases e))
  have HDB := Lib.hid hdb
  have l2 := lt_of_block H2.out
  have y1 := cell_of H2.out 1
  have yf := eightF H2.out 1
  simp only [List.getElem?_toArray, List.getElem?_cons_zero, List.getElem?_cons_succ, List.setIfInBounds_toArray, List.set_cons_zero] at y1
  clear ho3 hg3 hdb H1A H2A HBA HSBA HQA HOW x0 x1 x2 x3 x4 x5 x6 x7 yA lA1 lA2
  go_wp2_with fail
  have hne : db ≠ w.heap.size + 1 := by have := HL2.out; omega
  have hdbn : w.heap.size + 1 < db := by have := HL2.out; omega
  have hne2 : sb ≠ w.heap.size + 1 := by omega
  have h2n : (W7.setCell ⟨w.heap.size + 1, 1, none⟩ (.slice (some ⟨db, 0, none⟩) 1 cd)).heap[w.heap.size + 1]? = some (.cells #[.slice (some ⟨sb, 0, none⟩) 1 cs, .slice (some ⟨db, 0, none⟩) 1 cd, .int .i64 0, .slice none 0 0] 168 (0, 0)) := by simpa using heap_set H2.out 1 (.slice (some ⟨db, 0, none⟩) 1 cd)
  have H2n := Lib.hid h2n
  have H1n := Lib.hid ((Below.heap_setCell W7 ⟨w.heap.size + 1, 1, none⟩ (.slice (some ⟨db, 0, none⟩) 1 cd) w.heap.size (by simp)).trans H1.out)
  have HBn := Lib.hid (below_put HB.out HB.out.size (show w.heap.size ≤ w.heap.size + 1 by omega) 1 (.slice (some ⟨db, 0, none⟩) 1 cd))
  have HSBn := Lib.hid (HSB.out.set (g := w.heap.size + 1) hne2 1 (.slice (some ⟨db, 0, none⟩) 1 cd))
  have HDBn := Lib.hid (HDB.out.set (g := w.heap.size + 1) hne 1 (.slice (some ⟨db, 0, none⟩) 1 cd))
  clear H1 H2 HB HSB HDB y1 yf l2 hne hne2 h2n
  generalize hW : World.setCell W7 _ _ = W8 at *
  clear hW
  rw [rounds_succ]
  obtain ⟨c0, c1, c2, c3⟩ := fourC H2n.out
  obtain ⟨d0, d1, d2, d3⟩ := fourC H1n.out
  have f0 := eightF H1n.out 0
  have f1 := eightF H1n.out 1
  have f2 := eightF H1n.out 2
  have f3 := eightF H1n.out 3
  have l1 := lt_of_block H1n.out
  go_wp2_with fail
  clear c0 c1 c2 c3 d0 d1 d2 d3 f0 f1 f2 f3
  have hr := ((((Re.refl H1n.out).set 0 (.slice (some ⟨sb, 0, none⟩) 1 cs)).set 1 (.slice (some ⟨db, 0, none⟩) 1 cd)).set 2 (.int .i64 0)).set 3 (.slice none 0 0)
  have hbr := hr.below HBn.out (Nat.le_refl _)
  have hsx := (((HSBn.out.set (g := w.heap.size) (by have := hsbn; omega) 0 (.slice (some ⟨sb, 0, none⟩) 1 cs)).set (g := w.heap.size) (by have := hsbn; omega) 1 (.slice (some ⟨db, 0, none⟩) 1 cd)).set (g := w.heap.size) (by have := hsbn; omega) 2 (.int .i64 0)).set (g := w.heap.size) (by have := hsbn; omega) 3 (.slice none 0 0)
  have hdx := (((HDBn.out.set (g := w.heap.size) (by have := hdbn; omega) 0 (.slice (some ⟨sb, 0, none⟩) 1 cs)).set (g := w.heap.size) (by have := hdbn; omega) 1 (.slice (some ⟨db, 0, none⟩) 1 cd)).set (g := w.heap.size) (by have := hdbn; omega) 2 (.int .i64 0)).set (g := w.heap.size) (by have := hdbn; omega) 3 (.slice none 0 0)
  generalize hW : World.setCell _ _ _ = W9
  rw [hW] at hr hbr hsx hdx
  clear hW
  have hbk : W9.heap[w.heap.size]? = some (.cells #[.slice (some ⟨sb, 0, none⟩) 1 cs, .slice (some ⟨db, 0, none⟩) 1 cd, .int .i64 0, .slice none 0 0] 168 (0, 0)) := by simpa using hr.blk
  obtain ⟨z0, z1, z2, z3⟩ := fourC hbk
  refine bodyPost_ret (v := .tuple #[.agg #[.slice (some ⟨sb, 0, none⟩) 1 cs, .slice (some ⟨db, 0, none⟩) 1 cd, .int .i64 0, .slice none 0 0], .bool true]) (by simp [results, Tryz.results95, go_sem, z0, z1, z2, z3]) rfl ⟨sb, cs, db, cd, rfl, hsx, hdx, hbr, by omega, by omega⟩
end Go.Proofs.YtpbcbgoenoolfaaGreatDoor
