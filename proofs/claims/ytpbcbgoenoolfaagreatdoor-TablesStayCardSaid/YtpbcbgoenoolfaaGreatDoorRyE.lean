/- lanekeep2's ready(): rule.reader.line, rule.Read at what it reads. -/
import Derived.Test.YtpbcbgoenoolfaaGreatDoorRyD
import Derived.Deep.AppendLies
import Derived.Deep.RegionLaw
namespace Go.Proofs.YtpbcbgoenoolfaaGreatDoor
open Go.RowKit Go.Hw Go.Shelf

def kindsV : List ByteArray := [⟨#[103, 114, 111, 117, 112]⟩, ⟨#[104, 111, 115, 116]⟩, ⟨#[97, 108, 108, 111, 119]⟩, ⟨#[97, 99, 99, 101, 112, 116]⟩, ⟨#[100, 101, 110, 121]⟩]
/-- What line does. -/
def LineOut (w : World) (R : Nat) (e : Ending) (w' : World) : Prop :=
  e = .returned (.bool true) ∧ ∃ gb cg sb cs db cd, w'.heap[R]? = some (.cells #[.slice none 0 0, .slice none 0 0, .slice (some ⟨gb, 0, none⟩) 1 cg, .slice none 0 0, .int .i64 2] 113 (0, 0)) ∧ PolAt w' gb cg sb cs db cd ∧ w.grownBy w' (some R)
theorem _root_.Go.World.grownBy.mono' {w w' : World} (h : w.grownBy w' none) (r : Option Nat) : w.grownBy w' r := ⟨h.os, h.tape, h.output, h.size, fun i hi _ => h.block i hi (by simp)⟩
set_option maxRecDepth 100000 in
set_option maxHeartbeats 4000000 in
theorem line_one (R : Nat) (w : World) (hR : w.heap[R]? = some (.cells #[.slice none 0 0, .slice none 0 0, .slice none 0 0, .slice none 0 0, .int .i64 0] 113 (0, 0))) (hm : MxW w) (hne : 0 ≠ R) :
    Calls Tryz.prog 50 #[.pointer (some ⟨R, 0, none⟩), .string lineA] w (LineOut w R) := by
  obtain ⟨i0, hi, hz0, hz1, hz2⟩ := info_parts Tryz.infoGrant
  have HR := Lib.hid hR
  have HM := Lib.hid hm
  have lR := lt_of_block hR
  have lR0 := lt_of_block hR
  clear hR hm
  go_enter Tryz.func50, Tryz.ntmps50
  go_wp2_with fail
  refine (words_one w HM.out).mono ?_
  rintro e W1 ⟨rfl, hW1⟩
  have hb1 : Below w.heap.size w W1 := by rw [hW1]; exact below_alloc1 _ _
  have HW := Lib.hid (show CA W1 w.heap.size wordsV by rw [hW1]; exact CA.made w wordsV _)
  have HR1 := Lib.hid ((hb1.block _ lR).trans HR.out)
  have HM1 := Lib.hid (HM.out.below hb1)
  have HB1 := Lib.hid hb1
  obtain ⟨c0, c1, c2, c3⟩ := CA.c4 HW.out
  have lw := HW.out.1
  have lR1 := lt_of_block HR1.out
  have HK := Lib.hid (CA.made W1 (kindsV.map Value.string) 9)
  unfold kindsV at HK
  simp only [List.map_cons, List.map_nil] at HK
  have hcell : ∀ j, j < 5 → (W1.alloc (.cells #[.string ⟨#[103, 114, 111, 117, 112]⟩, .string ⟨#[104, 111, 115, 116]⟩, .string ⟨#[97, 108, 108, 111, 119]⟩, .string ⟨#[97, 99, 99, 101, 112, 116]⟩, .string ⟨#[100, 101, 110, 121]⟩] 9)).cell? ⟨W1.heap.size, 0 + j, none⟩ = some (.string (kindsV.getD j ByteArray.empty)) := by
    intro j hj
    have hx := HK.out.2 j
    have : j = 0 ∨ j = 1 ∨ j = 2 ∨ j = 3 ∨ j = 4 := by omega
    rcases this with rfl | rfl | rfl | rfl | rfl <;> (rw [Nat.zero_add]; exact hx _ rfl)
  have hix := Tryz.slices_Index_string W1.heap.size 0 5 5 kindsV ⟨#[97, 108, 108, 111, 119]⟩ _ (by simp [kindsV]) (by omega) (fun j hj => hcell j (by have : kindsV.length = 5 := rfl; omega))
  rw [show Lib.idxOfS (kindsV.take 5) (⟨#[97, 108, 108, 111, 119]⟩ : ByteArray) = 2 from by kernel_rfl] at hix
  clear hW1 hb1 HR HM hcell lR HK
  go_wp2_with fail
  refine hix.mono ?_
  rintro e W2 ⟨rfl, rfl⟩
  have hb2 := below_alloc1 W1 (.cells #[.string ⟨#[103, 114, 111, 117, 112]⟩, .string ⟨#[104, 111, 115, 116]⟩, .string ⟨#[97, 108, 108, 111, 119]⟩, .string ⟨#[97, 99, 99, 101, 112, 116]⟩, .string ⟨#[100, 101, 110, 121]⟩] 9)
  have HR2 := Lib.hid ((hb2.block _ lR1).trans HR1.out)
  have HM2 := Lib.hid (HM1.out.below hb2)
  have HW2 := Lib.hid (HW.out.below hb2)
  have HB2 := Lib.hid (HB1.out.trans (hb2.mono HB1.out.size))
  have lRw : R < w.heap.size := by have := lR1; exact lR0
  clear hix hb2 HR1 HM1 HW HB1 c0 c1 c2 c3 lw lR1
  generalize World.alloc W1 _ = W2 at *
  have r4 := cell_of HR2.out 4
  have f4 := eightF HR2.out 4
  have lR2 := lt_of_block HR2.out
  simp only [List.getElem?_toArray, List.getElem?_cons_zero, List.getElem?_cons_succ] at r4
  have hmn : min (2 : Int) 3 = 2 := by decide
  go_upto_region 9 with (fail)
  have HR3 := Lib.hid (show (W2.setCell ⟨R, 4, none⟩ (.int .i64 2)).heap[R]? = some (.cells #[.slice none 0 0, .slice none 0 0, .slice none 0 0, .slice none 0 0, .int .i64 2] 113 (0, 0)) by simpa using heap_set HR2.out 4 (.int .i64 2))
  have HM3 := Lib.hid (HM2.out.set (g := R) hne 4 (.int .i64 2))
  have HW3 := Lib.hid (HW2.out.set (g := R) (by omega) 4 (.int .i64 2))
  have HG3 := Lib.hid (show w.grownBy (W2.setCell ⟨R, 4, none⟩ (.int .i64 2)) (some R) from (grownB HB2.out (some R)).andThen ⟨rfl, rfl, rfl, by simp, fun i _ hi => Below.heap_setCell W2 _ _ i (fun e => hi (by rw [e]))⟩ (fun _ h => .inr h))
  clear HR2 HM2 HW2 HB2 r4 f4 lR2
  generalize World.setCell W2 _ _ = W3 at *
  obtain ⟨c0, c1, c2, c3⟩ := CA.c4 HW3.out
  have lw := HW3.out.1
  have lR3 := lt_of_block HR3.out
  have hg := readGrant_one w.heap.size W3 HW3.out HM3.out
  go_wp2_with fail
  refine hg.mono ?_
  rintro e W4 ⟨sb, cs, db, cd, rfl, hs, hd, hb4, hsR, hdR⟩
  have hRs : sb ≠ R := by omega
  have hRd : db ≠ R := by omega
  have HR4 := Lib.hid ((hb4.block _ lR3).trans HR3.out)
  have HG4 := Lib.hid (HG3.out.andThen (grownB hb4 (some R)) (fun _ h => .inr h))
  have HSB := Lib.hid hs
  have HDB := Lib.hid hd
  clear hg hs hd hb4 HR3 HM3 HW3 HG3 c0 c1 c2 c3 lw lR3
  have lR4 := lt_of_block HR4.out
  have r2 := cell_of HR4.out 2
  have f2 := eightF HR4.out 2
  simp only [List.getElem?_toArray, List.getElem?_cons_zero, List.getElem?_cons_succ] at r2
  go_upto_region 25 with (fail)
  have HRA := Lib.hid ((heap_alloc_old W4 (.cells #[.slice (some ⟨sb, 0, none⟩) 1 cs, .slice (some ⟨db, 0, none⟩) 1 cd, .int .i64 0, .slice none 0 0] 168) lR4).trans HR4.out)
  have HGA := Lib.hid (HG4.out.andThen (World.grownBy_alloc W4 (.cells #[.slice (some ⟨sb, 0, none⟩) 1 cs, .slice (some ⟨db, 0, none⟩) 1 cd, .int .i64 0, .slice none 0 0] 168) (some R)) (fun _ h => .inr h))
  have HSBA := Lib.hid (HSB.out.alloc (.cells #[.slice (some ⟨sb, 0, none⟩) 1 cs, .slice (some ⟨db, 0, none⟩) 1 cd, .int .i64 0, .slice none 0 0] 168))
  have HDBA := Lib.hid (HDB.out.alloc (.cells #[.slice (some ⟨sb, 0, none⟩) 1 cs, .slice (some ⟨db, 0, none⟩) 1 cd, .int .i64 0, .slice none 0 0] 168))
  have HTA := Lib.hid (CA.made W4 [.slice (some ⟨sb, 0, none⟩) 1 cs, .slice (some ⟨db, 0, none⟩) 1 cd, .int .i64 0, .slice none 0 0] 168)
  have HZA := Lib.hid (show (W4.alloc (.cells #[.slice (some ⟨sb, 0, none⟩) 1 cs, .slice (some ⟨db, 0, none⟩) 1 cd, .int .i64 0, .slice none 0 0] 168)).heap.size = W4.heap.size + 1 by simp)
  obtain ⟨x0, x1, x2, x3⟩ := CA.c4 HTA.out
  have rA := (World.cell?_alloc_lt W4 (.cells #[.slice (some ⟨sb, 0, none⟩) 1 cs, .slice (some ⟨db, 0, none⟩) 1 cd, .int .i64 0, .slice none 0 0] 168) ⟨R, 2, none⟩ lR4).trans r2
  clear HR4 HG4 HSB HDB r2 f2
  generalize World.alloc W4 _ = WA at *
  have lRA := lt_of_block HRA.out
  have lTA := HTA.out.1
  go_region_law
    ((refine step_append_lies _ (by rfl) _ _ _ (by rfl) W4.heap.size 168 i0 _ 4 80 Tryz.underlying69 hi hz0 hz1 hz2 rfl (by omega) (.slice none 0 0) _ _ (by rfl) (World.ownsRow_nil _ _ _ _)
          ⟨WA.heap.size, 0, none⟩ 1 1 [.slice (some ⟨sb, 0, none⟩) 1 cs, .slice (some ⟨db, 0, none⟩) 1 cd, .int .i64 0, .slice none 0 0] (by rfl) (by rfl)
          (World.news_of_block (cs := #[.slice (some ⟨sb, 0, none⟩) 1 cs, .slice (some ⟨db, 0, none⟩) 1 cd, .int .i64 0, .slice none 0 0]) (t := 168) (fr := (0, 0)) (heap_alloc_new WA _)) (by simp [Value.oneCell'])
          (by omega) (by unfold maxLen; omega) (by omega) (by have := HZA.out; simp; omega) (WA.heap.size + 1) (by simp) ?_
      intro gg cg W5 hown5 hgrow hat hgl
      have rA : W5.cell? ⟨R, 2, none⟩ = some (.slice none 0 0) := (World.cell?_of_block (hgrow.block R (by (try simp); omega) (fun e => by cases e))).trans (by go_simp)
      have x0 : W5.cell? ⟨W4.heap.size, 0, none⟩ = some (.slice (some ⟨sb, 0, none⟩) 1 cs) := (World.cell?_of_block (hgrow.block W4.heap.size (by (try simp); omega) (fun e => by cases e))).trans (by go_simp)
      have x1 : W5.cell? ⟨W4.heap.size, 1, none⟩ = some (.slice (some ⟨db, 0, none⟩) 1 cd) := (World.cell?_of_block (hgrow.block W4.heap.size (by (try simp); omega) (fun e => by cases e))).trans (by go_simp)
      have x2 : W5.cell? ⟨W4.heap.size, 2, none⟩ = some (.int .i64 0) := (World.cell?_of_block (hgrow.block W4.heap.size (by (try simp); omega) (fun e => by cases e))).trans (by go_simp)
      have x3 : W5.cell? ⟨W4.heap.size, 3, none⟩ = some (.slice none 0 0) := (World.cell?_of_block (hgrow.block W4.heap.size (by (try simp); omega) (fun e => by cases e))).trans (by go_simp)
      have lR5 : R < W5.heap.size := (by have := hgrow.size; (try simp at this); omega)
      have fA : W5.frozen? ⟨R, 2, none⟩ = false := eightF ((hgrow.block R (by (try simp); omega) (fun e => by cases e)).trans ((heap_alloc_old WA _ lRA).trans HRA.out)) 2))
  all_goals
    have hg0 : (WA.alloc (.cells #[.slice (some ⟨sb, 0, none⟩) 1 cs, .slice (some ⟨db, 0, none⟩) 1 cd, .int .i64 0, .slice none 0 0] 168)).grownBy W5 none := ⟨hgrow.os, hgrow.tape, hgrow.output, hgrow.size, hgrow.block⟩
    have hca : CA W5 gg [.slice (some ⟨sb, 0, none⟩) 1 cs, .slice (some ⟨db, 0, none⟩) 1 cd, .int .i64 0, .slice none 0 0] := own_ca hown5
    have hge := (hown5.lt gg rfl).1
    have hneR : gg ≠ R := by omega
    have hlA : R < (WA.alloc (.cells #[.slice (some ⟨sb, 0, none⟩) 1 cs, .slice (some ⟨db, 0, none⟩) 1 cd, .int .i64 0, .slice none 0 0] 168)).heap.size := by simp; omega
    have hR5 := (hg0.block R hlA (fun e => by cases e)).trans ((heap_alloc_old WA (.cells #[.slice (some ⟨sb, 0, none⟩) 1 cs, .slice (some ⟨db, 0, none⟩) 1 cd, .int .i64 0, .slice none 0 0] 168) lRA).trans HRA.out)
    have HR6 := Lib.hid (show (W5.setCell ⟨R, 2, none⟩ (.slice (some ⟨gg, 0, none⟩) 1 cg)).heap[R]? = some (.cells #[.slice none 0 0, .slice none 0 0, .slice (some ⟨gg, 0, none⟩) 1 cg, .slice none 0 0, .int .i64 2] 113 (0, 0)) by simpa using heap_set hR5 2 (.slice (some ⟨gg, 0, none⟩) 1 cg))
    have HC6 := Lib.hid (hca.set (g := R) hneR 2 (.slice (some ⟨gg, 0, none⟩) 1 cg))
    have HS6 := Lib.hid (((HSBA.out.alloc (.cells #[.slice (some ⟨sb, 0, none⟩) 1 cs, .slice (some ⟨db, 0, none⟩) 1 cd, .int .i64 0, .slice none 0 0] 168)).grown hg0 (fun e => by cases e)).set (g := R) hRs 2 (.slice (some ⟨gg, 0, none⟩) 1 cg))
    have HD6 := Lib.hid (((HDBA.out.alloc (.cells #[.slice (some ⟨sb, 0, none⟩) 1 cs, .slice (some ⟨db, 0, none⟩) 1 cd, .int .i64 0, .slice none 0 0] 168)).grown hg0 (fun e => by cases e)).set (g := R) hRd 2 (.slice (some ⟨gg, 0, none⟩) 1 cg))
    have HG6 := Lib.hid (show w.grownBy (W5.setCell ⟨R, 2, none⟩ (.slice (some ⟨gg, 0, none⟩) 1 cg)) (some R) from ((HGA.out.andThen (World.grownBy_alloc WA (.cells #[.slice (some ⟨sb, 0, none⟩) 1 cs, .slice (some ⟨db, 0, none⟩) 1 cd, .int .i64 0, .slice none 0 0] 168) (some R)) (fun _ h => .inr h)).andThen (hg0.mono' (some R)) (fun _ h => .inr h)).andThen ⟨rfl, rfl, rfl, by simp, fun i _ hi => Below.heap_setCell W5 _ _ i (fun e => hi (by rw [e]))⟩ (fun _ h => .inr h))
    clear hg0 hca hge hneR hlA hR5 hgrow hown5 hat hgl rA x0 x1 x2 x3 fA lR5
    generalize World.setCell W5 _ _ = W6 at *
    go_wp2_with fail
    go_ret
    exact ⟨rfl, gg, cg, sb, cs, db, cd, HR6.out, ⟨HC6.out, HS6.out, HD6.out⟩, HG6.out⟩

theorem fiveC {W : World} {R : Nat} {a0 a1 a2 a3 a4 : Value} {T : TypeId} (h : W.heap[R]? = some (.cells #[a0, a1, a2, a3, a4] T (0, 0))) : (W.cell? ⟨R, 0, none⟩ = some a0 ∧ W.cell? ⟨R, 1, none⟩ = some a1 ∧ W.cell? ⟨R, 2, none⟩ = some a2 ∧ W.cell? ⟨R, 3, none⟩ = some a3) ∧ True := by
  refine ⟨⟨?_, ?_, ?_, ?_⟩, trivial⟩ <;> simp [World.cell?, h]
set_option maxRecDepth 100000 in
set_option maxHeartbeats 4000000 in
theorem read_one (w : World) (hm : MxW w) : Calls Tryz.prog 29 #[.string txtA] w fun e w' => ∃ gb cg, e = .returned (.tuple #[.agg #[.slice none 0 0, .slice none 0 0, .slice (some ⟨gb, 0, none⟩) 1 cg, .slice none 0 0], .int .i64 0, .int .i64 0]) ∧ Below w.heap.size w w' := by
  have h1 := heap_alloc_new w (.cells #[.slice none 0 0, .slice none 0 0, .slice none 0 0, .slice none 0 0] 72)
  have hb := below_alloc1 w (.cells #[.slice none 0 0, .slice none 0 0, .slice none 0 0, .slice none 0 0] 72)
  have H1 := Lib.hid h1
  have HM := Lib.hid (hm.below hb)
  have HB := Lib.hid hb
  have l1 := lt_of_block h1
  have e1 : (txtA.size : Int) = 13 := by kernel_rfl
  have hm0 := hm.lt
  clear h1 hb hm
  go_enter Tryz.func29, Tryz.ntmps29
  go_wp2_with fail
  generalize World.alloc w _ = W0 at *
  refine (lines_one W0 HM.out).mono ?_
  rintro e W1 ⟨rfl, hW1⟩
  have hb1 : Below W0.heap.size W0 W1 := by rw [hW1]; exact below_alloc1 _ _
  have HL := Lib.hid (show CA W1 W0.heap.size [.string lineA, .string ⟨#[]⟩] by rw [hW1]; exact CA.made W0 [.string lineA, .string ⟨#[]⟩] _)
  have H1 := Lib.hid ((hb1.block _ l1).trans H1.out)
  have HM := Lib.hid (HM.out.below hb1)
  have HB := Lib.hid (HB.out.trans (hb1.mono HB.out.size))
  have hs1 := HB.out.size
  clear hW1 hb1 l1
  have l1 := lt_of_block H1.out
  have lw1 := l1
  have hr := heap_alloc_new W1 (.cells #[.slice none 0 0, .slice none 0 0, .slice none 0 0, .slice none 0 0, .int .i64 0] 113)
  have hb2 := below_alloc1 W1 (.cells #[.slice none 0 0, .slice none 0 0, .slice none 0 0, .slice none 0 0, .int .i64 0] 113)
  have HR := Lib.hid hr
  have HL := Lib.hid (HL.out.below hb2)
  have H1 := Lib.hid ((hb2.block _ l1).trans H1.out)
  have HM := Lib.hid (HM.out.below hb2)
  have HB := Lib.hid (HB.out.trans (hb2.mono HB.out.size))
  have c0 := HL.out.2 0 _ rfl
  have ll := HL.out.1
  clear hr hb2 l1
  go_upto_region 5 with (fail)
  generalize World.alloc W1 _ = W2 at *
  have l1 := lt_of_block H1.out
  go_wp2_with fail
  refine wp_loop_rounds 2 ?_
  rw [rounds_succ]
  go_wp2_with fail
  refine (line_one W1.heap.size W2 HR.out HM.out (by omega)).mono ?_
  rintro e W3 ⟨rfl, gb, cg, sb, cs, db, cd, hR, hP, hg⟩
  have H1 := Lib.hid ((hg.block _ l1 (fun e => by injection e with e; omega)).trans H1.out)
  have HB := Lib.hid (HB.out.grown hg HB.out.size (fun j e => by injection e with e; omega))
  have HR := Lib.hid hR
  have HP := Lib.hid hP
  obtain ⟨⟨r0, r1, r2, r3⟩, -⟩ := fiveC hR
  have lR := lt_of_block hR
  clear hR hP hg c0 ll l1 HM HL
  have l1 := lt_of_block H1.out
  go_wp2_with fail
  rw [rounds_succ]
  go_wp2_with fail
  refine (checkPolicy_one gb cg sb cs db cd W3 HP.out).mono ?_
  rintro e W4 ⟨rfl, hb4⟩
  have H1 := Lib.hid ((hb4.block _ l1).trans H1.out)
  have hR := (hb4.block _ lR).trans HR.out
  have HB := Lib.hid (HB.out.trans (hb4.mono HB.out.size))
  obtain ⟨⟨r0, r1, r2, r3⟩, -⟩ := fiveC hR
  have lR := lt_of_block hR
  clear hb4 HP HR hR l1
  obtain ⟨d0, d1, d2, d3⟩ := fourC H1.out
  have f0 := eightF H1.out 0
  have f1 := eightF H1.out 1
  have f2 := eightF H1.out 2
  have f3 := eightF H1.out 3
  have l1 := lt_of_block H1.out
  go_wp2_with fail
  clear d0 d1 d2 d3 f0 f1 f2 f3 r0 r1 r2 r3
  have hr := ((((Re.refl H1.out).set 0 (.slice none 0 0)).set 1 (.slice none 0 0)).set 2 (.slice (some ⟨gb, 0, none⟩) 1 cg)).set 3 (.slice none 0 0)
  have hbr := hr.below HB.out (Nat.le_refl _)
  generalize hW : World.setCell _ _ _ = W9
  rw [hW] at hr hbr
  clear hW
  have hbk : W9.heap[w.heap.size]? = some (.cells #[.slice none 0 0, .slice none 0 0, .slice (some ⟨gb, 0, none⟩) 1 cg, .slice none 0 0] 72 (0, 0)) := by simpa using hr.blk
  obtain ⟨z0, z1, z2, z3⟩ := fourC hbk
  refine bodyPost_ret (v := .tuple #[.agg #[.slice none 0 0, .slice none 0 0, .slice (some ⟨gb, 0, none⟩) 1 cg, .slice none 0 0], .int .i64 0, .int .i64 0]) (by simp [results, Tryz.results29, go_sem, z0, z1, z2, z3]) rfl ⟨gb, cg, rfl, hbr⟩
end Go.Proofs.YtpbcbgoenoolfaaGreatDoor
