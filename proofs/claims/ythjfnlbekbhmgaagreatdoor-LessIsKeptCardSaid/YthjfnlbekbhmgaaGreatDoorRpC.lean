/- The order of flows and of reports in the program (printed by gen_rpc.py). view.FlowFault at any flow (printed by gen_rpf.py). flow.Check at any reports (printed by gen_rpk.py). -/
import Derived.Test.YthjfnlbekbhmgaaGreatDoorRpA
import Derived.Test.YthjfnlbekbhmgaaGreatDoorSpA
import Derived.Test.YthjfnlbekbhmgaaGreatDoorPkD
import Derived.Test.YthjfnlbekbhmgaaGreatDoorRgV
import Derived.Test.YthjfnlbekbhmgaaGreatDoorRgU
import Derived.Test.YthjfnlbekbhmgaaGreatDoorChA
import Derived.Test.YthjfnlbekbhmgaaGreatDoorRpR
namespace Go.Proofs.YthjfnlbekbhmgaaGreatDoor
open Go.RowKit Go.Hw

theorem spanC_eq (s : Bool) (h l : Int) (s' : Bool) (h' l' : Int) : spanC s h l s' h' l' = cmpA ⟨s, h, l⟩ ⟨s', h', l'⟩ := by
  show spanC s h l s' h' l' = orOf [cmpB s s', cmpI h h', cmpI l l']
  unfold spanC cmpB
  cases s <;> cases s' <;> simp [orOf_cons, orOf_nil]
theorem compareBools_any (a b : Bool) (w : World) : Calls Tryz.prog 61 #[.bool a, .bool b] w fun e w' => e = .returned (.int .i64 (cmpB a b)) ∧ w = w' := by
  have HC : Hid (cmpB a b = if a == b then 0 else if b then -1 else 1) := Lib.hid rfl
  cases a <;> cases b
  all_goals (
    go_enter Tryz.func61, Tryz.ntmps61
    go_wp2_with fail
    go_ret
    exact ⟨by rw [HC.out]; rfl, rfl⟩)
theorem VL.stabG {Gr : World → World → Prop} {l : List (World → Value → Prop)} (h : ∀ p ∈ l, ∀ w w' v, p w v → Gr w w' → p w' v) (i : Nat) (w w' : World) (v : Value) (hv : VL l i w v) (hg : Gr w w') : VL l i w' v := by
  unfold VL at *
  by_cases hi : i < l.length
  · exact h _ (getD_mem hi) w w' v hv hg
  · rw [List.getD_eq_getElem?_getD, List.getElem?_eq_none (by omega)] at hv ⊢
    exact hv
theorem spanC_any2 (s : Bool) (h l : Int) (s' : Bool) (h' l' : Int) (w : World) : Calls Tryz.prog 93 #[.agg #[.bool s, .int .u64 h, .int .u64 l], .agg #[.bool s', .int .u64 h', .int .u64 l']] w fun e w' => e = .returned (.int .i64 (cmpA ⟨s, h, l⟩ ⟨s', h', l'⟩)) ∧ Below w.heap.size w w' := by
  rw [← spanC_eq]
  exact spanCompare_any s h l s' h' l' w
theorem cmpS_any (a b : ByteArray) (w : World) : Calls Tryz.prog 52 #[.string a, .string b] w fun e w' => e = .returned (.int .i64 (cmpS a b)) ∧ w = w' := cmp_any a b w
set_option maxRecDepth 100000 in
set_option maxHeartbeats 4000000 in
theorem compareFlows_any (f g : Fl) (w : World) : Calls Tryz.prog 62 #[.agg (flA f), .agg (flA g)] w fun e w' => e = .returned (.int .i64 (cmpF f g)) ∧ Below w.heap.size w w' := by
  have h41 := al21 w (.cells (flA f) 37) (.cells (flA g) 37)
  have h42 := al22 w (.cells (flA f) 37) (.cells (flA g) 37)
  have HB0 := Lib.hid (bl_al (bl_alloc w (.cells (flA f) 37)) (o := .cells (flA g) 37))
  go_enter Tryz.func62, Tryz.ntmps62
  go_upto_region 1 with (fail)
  generalize hW : World.alloc _ _ = W0 at h41 h42 HB0 ⊢
  clear hW
  have hl1 := lt_of_block h41
  have hl2 := lt_of_block h42
  have H1 := Lib.hid h41
  have H2 := Lib.hid h42
  clear h41 h42
  go_cut [4] from 5 to 31 (fun v4 wc => v4 = .int .i64 (cmpF f g) ∧ Below W0.heap.size W0 wc)
  case first =>
    refine wp_region_drawn 27 (fun f' => ⟨#[.agg (flA f), .agg (flA g), .pointer (some ⟨w.heap.size, 0, none⟩), .pointer (some ⟨(w.heap.size + 1), 0, none⟩), .int .i64 0, f' 0, f' 1, f' 2, f' 3, f' 4, f' 5, f' 6, f' 7, f' 8, f' 9, f' 10, f' 11, f' 12, f' 13, f' 14, f' 15, f' 16, f' 17, f' 18, f' 19, f' 20, f' 21, f' 22, f' 23, f' 24, f' 25, f' 26], []⟩) (VL [VIs (.pointer (some ⟨w.heap.size, 0, none⟩)), VIs (.int .i64 f.proto), VIs (.pointer (some ⟨(w.heap.size + 1), 0, none⟩)), VIs (.int .i64 g.proto), VIs (.int .i64 (cmpI f.proto g.proto)), VIs (.pointer (some ⟨w.heap.size, 1, none⟩)), VIs (.agg #[.bool f.s6, .int .u64 f.sh, .int .u64 f.sl]), VIs (.pointer (some ⟨(w.heap.size + 1), 1, none⟩)), VIs (.agg #[.bool g.s6, .int .u64 g.sh, .int .u64 g.sl]), VIs (.int .i64 (cmpA ⟨f.s6, f.sh, f.sl⟩ ⟨g.s6, g.sh, g.sl⟩)), VIs (.pointer (some ⟨w.heap.size, 4, none⟩)), VIs (.agg #[.bool f.t6, .int .u64 f.th, .int .u64 f.tl]), VIs (.pointer (some ⟨(w.heap.size + 1), 4, none⟩)), VIs (.agg #[.bool g.t6, .int .u64 g.th, .int .u64 g.tl]), VIs (.int .i64 (cmpA ⟨f.t6, f.th, f.tl⟩ ⟨g.t6, g.th, g.tl⟩)), VIs (.pointer (some ⟨w.heap.size, 7, none⟩)), VIs (.int .i64 f.fp), VIs (.pointer (some ⟨(w.heap.size + 1), 7, none⟩)), VIs (.int .i64 g.fp), VIs (.int .i64 (cmpI f.fp g.fp)), VIs (.pointer (some ⟨w.heap.size, 8, none⟩)), VIs (.int .i64 f.tp), VIs (.pointer (some ⟨(w.heap.size + 1), 8, none⟩)), VIs (.int .i64 g.tp), VIs (.int .i64 (cmpI f.tp g.tp)), (fun w' v => ∃ gz, v = .slice (some ⟨gz, 0, none⟩) 5 5 ∧ w'.heap[gz]? = some (.cells (([cmpI f.proto g.proto, cmpA ⟨f.s6, f.sh, f.sl⟩ ⟨g.s6, g.sh, g.sl⟩, cmpA ⟨f.t6, f.th, f.tl⟩ ⟨g.t6, g.th, g.tl⟩, cmpI f.fp g.fp, cmpI f.tp g.tp]).map (Value.int .i64)).toArray 3 (0, 0))), VIs (.int .i64 (orOf ([cmpI f.proto g.proto, cmpA ⟨f.s6, f.sh, f.sl⟩ ⟨g.s6, g.sh, g.sl⟩, cmpA ⟨f.t6, f.th, f.tl⟩ ⟨g.t6, g.th, g.tl⟩, cmpI f.fp g.fp, cmpI f.tp g.tp])))]) (fun _ w' => Below W0.heap.size W0 w') (fun w w' => w.grownBy w' none) (fun _ => undef) (show Tryz.prog.follows .mixedOrders = true from by kernel_rfl) (by kernel_rfl) ?_ ?_ ?_ ((Below.refl _ _).drew)
    · exact fun i w w' v h hg => VL.stabG (Gr := fun w w' => w.grownBy w' none) (by
        intro q hq w w' v hv hg
        simp only [List.mem_cons, List.mem_nil_iff, or_false] at hq
        rcases hq with rfl | rfl | rfl | rfl | rfl | rfl | rfl | rfl | rfl | rfl | rfl | rfl | rfl | rfl | rfl | rfl | rfl | rfl | rfl | rfl | rfl | rfl | rfl | rfl | rfl | rfl | rfl <;> first | exact hv | (obtain ⟨gz, h1, h2⟩ := hv; exact ⟨gz, h1, (hg.block gz (lt_of_block h2) (by simp)).trans h2⟩)) i w w' v h hg
    · intro i o hi ho f' w' k hk hG hd
      have H1w := (hG.block _ hl1).trans H1.out
      have H2w := (hG.block _ hl2).trans H2.out
      have cy0 : w'.cell? ⟨(w.heap.size + 1), 0, none⟩ = some (.int .i64 g.proto) := cell_of H2w 0
      have cy1 : w'.cell? ⟨(w.heap.size + 1), 1, none⟩ = some (.bool g.s6) := cell_of H2w 1
      have cy2 : w'.cell? ⟨(w.heap.size + 1), 2, none⟩ = some (.int .u64 g.sh) := cell_of H2w 2
      have cy3 : w'.cell? ⟨(w.heap.size + 1), 3, none⟩ = some (.int .u64 g.sl) := cell_of H2w 3
      have cy4 : w'.cell? ⟨(w.heap.size + 1), 4, none⟩ = some (.bool g.t6) := cell_of H2w 4
      have cy5 : w'.cell? ⟨(w.heap.size + 1), 5, none⟩ = some (.int .u64 g.th) := cell_of H2w 5
      have cy6 : w'.cell? ⟨(w.heap.size + 1), 6, none⟩ = some (.int .u64 g.tl) := cell_of H2w 6
      have cy7 : w'.cell? ⟨(w.heap.size + 1), 7, none⟩ = some (.int .i64 g.fp) := cell_of H2w 7
      have cy8 : w'.cell? ⟨(w.heap.size + 1), 8, none⟩ = some (.int .i64 g.tp) := cell_of H2w 8
      have cx0 : w'.cell? ⟨w.heap.size, 0, none⟩ = some (.int .i64 f.proto) := cell_of H1w 0
      have cx1 : w'.cell? ⟨w.heap.size, 1, none⟩ = some (.bool f.s6) := cell_of H1w 1
      have cx2 : w'.cell? ⟨w.heap.size, 2, none⟩ = some (.int .u64 f.sh) := cell_of H1w 2
      have cx3 : w'.cell? ⟨w.heap.size, 3, none⟩ = some (.int .u64 f.sl) := cell_of H1w 3
      have cx4 : w'.cell? ⟨w.heap.size, 4, none⟩ = some (.bool f.t6) := cell_of H1w 4
      have cx5 : w'.cell? ⟨w.heap.size, 5, none⟩ = some (.int .u64 f.th) := cell_of H1w 5
      have cx6 : w'.cell? ⟨w.heap.size, 6, none⟩ = some (.int .u64 f.tl) := cell_of H1w 6
      have cx7 : w'.cell? ⟨w.heap.size, 7, none⟩ = some (.int .i64 f.fp) := cell_of H1w 7
      have cx8 : w'.cell? ⟨w.heap.size, 8, none⟩ = some (.int .i64 f.tp) := cell_of H1w 8
      have HG := Lib.hid hG
      clear hG H1w H2w
      have hcase : i = 0 ∨ i = 1 ∨ i = 2 ∨ i = 3 ∨ i = 4 ∨ i = 5 ∨ i = 6 ∨ i = 7 ∨ i = 8 ∨ i = 9 ∨ i = 10 ∨ i = 11 ∨ i = 12 ∨ i = 13 ∨ i = 14 ∨ i = 15 ∨ i = 16 ∨ i = 17 ∨ i = 18 ∨ i = 19 ∨ i = 20 ∨ i = 21 ∨ i = 22 ∨ i = 23 ∨ i = 24 ∨ i = 25 ∨ i = 26 := by omega
      rcases hcase with rfl | rfl | rfl | rfl | rfl | rfl | rfl | rfl | rfl | rfl | rfl | rfl | rfl | rfl | rfl | rfl | rfl | rfl | rfl | rfl | rfl | rfl | rfl | rfl | rfl | rfl | rfl <;> (replace ho := Option.some.inj ho; subst ho)
      · unfold Oper.wp
        go_simp
        exact ⟨_, (by first | (simp [upd]; done) | (simp [upd]; omega)), rfl, HG.out, World.grownBy.refl _ _⟩
      · have e0 : f' 0 = _ := hd ⟨0, .data⟩ (by simp) rfl
        unfold Oper.wp
        go_simp
        exact ⟨_, (by first | (simp [upd, e0]; done) | (simp [upd, e0]; omega)), rfl, HG.out, World.grownBy.refl _ _⟩
      · unfold Oper.wp
        go_simp
        exact ⟨_, (by first | (simp [upd]; done) | (simp [upd]; omega)), rfl, HG.out, World.grownBy.refl _ _⟩
      · have e2 : f' 2 = _ := hd ⟨2, .data⟩ (by simp) rfl
        unfold Oper.wp
        go_simp
        exact ⟨_, (by first | (simp [upd, e2]; done) | (simp [upd, e2]; omega)), rfl, HG.out, World.grownBy.refl _ _⟩
      · have e1 : f' 1 = _ := hd ⟨1, .data⟩ (by simp) rfl
        have e3 : f' 3 = _ := hd ⟨3, .data⟩ (by simp) rfl
        unfold Oper.wp
        go_simp
        refine (cmpI_any f.proto g.proto _).mono ?_
        rintro e w9 ⟨rfl, rfl⟩
        exact ⟨_, (by simp [upd, e1, e3]), rfl, HG.out, World.grownBy.refl _ _⟩
      · unfold Oper.wp
        go_simp
        exact ⟨_, (by first | (simp [upd]; done) | (simp [upd]; omega)), rfl, HG.out, World.grownBy.refl _ _⟩
      · have e5 : f' 5 = _ := hd ⟨5, .data⟩ (by simp) rfl
        unfold Oper.wp
        go_simp
        exact ⟨_, (by first | (simp [upd, e5]; done) | (simp [upd, e5]; omega)), rfl, HG.out, World.grownBy.refl _ _⟩
      · unfold Oper.wp
        go_simp
        exact ⟨_, (by first | (simp [upd]; done) | (simp [upd]; omega)), rfl, HG.out, World.grownBy.refl _ _⟩
      · have e7 : f' 7 = _ := hd ⟨7, .data⟩ (by simp) rfl
        unfold Oper.wp
        go_simp
        exact ⟨_, (by first | (simp [upd, e7]; done) | (simp [upd, e7]; omega)), rfl, HG.out, World.grownBy.refl _ _⟩
      · have e6 : f' 6 = _ := hd ⟨6, .data⟩ (by simp) rfl
        have e8 : f' 8 = _ := hd ⟨8, .data⟩ (by simp) rfl
        unfold Oper.wp
        go_simp
        refine (spanC_any2 f.s6 f.sh f.sl g.s6 g.sh g.sl _).mono ?_
        rintro e w9 ⟨rfl, hb9⟩
        exact ⟨_, (by simp [upd, e6, e8]), rfl, HG.out.trans (hb9.mono HG.out.size), grownB hb9 none⟩
      · unfold Oper.wp
        go_simp
        exact ⟨_, (by first | (simp [upd]; done) | (simp [upd]; omega)), rfl, HG.out, World.grownBy.refl _ _⟩
      · have e10 : f' 10 = _ := hd ⟨10, .data⟩ (by simp) rfl
        unfold Oper.wp
        go_simp
        exact ⟨_, (by first | (simp [upd, e10]; done) | (simp [upd, e10]; omega)), rfl, HG.out, World.grownBy.refl _ _⟩
      · unfold Oper.wp
        go_simp
        exact ⟨_, (by first | (simp [upd]; done) | (simp [upd]; omega)), rfl, HG.out, World.grownBy.refl _ _⟩
      · have e12 : f' 12 = _ := hd ⟨12, .data⟩ (by simp) rfl
        unfold Oper.wp
        go_simp
        exact ⟨_, (by first | (simp [upd, e12]; done) | (simp [upd, e12]; omega)), rfl, HG.out, World.grownBy.refl _ _⟩
      · have e11 : f' 11 = _ := hd ⟨11, .data⟩ (by simp) rfl
        have e13 : f' 13 = _ := hd ⟨13, .data⟩ (by simp) rfl
        unfold Oper.wp
        go_simp
        refine (spanC_any2 f.t6 f.th f.tl g.t6 g.th g.tl _).mono ?_
        rintro e w9 ⟨rfl, hb9⟩
        exact ⟨_, (by simp [upd, e11, e13]), rfl, HG.out.trans (hb9.mono HG.out.size), grownB hb9 none⟩
      · unfold Oper.wp
        go_simp
        exact ⟨_, (by first | (simp [upd]; done) | (simp [upd]; omega)), rfl, HG.out, World.grownBy.refl _ _⟩
      · have e15 : f' 15 = _ := hd ⟨15, .data⟩ (by simp) rfl
        unfold Oper.wp
        go_simp
        exact ⟨_, (by first | (simp [upd, e15]; done) | (simp [upd, e15]; omega)), rfl, HG.out, World.grownBy.refl _ _⟩
      · unfold Oper.wp
        go_simp
        exact ⟨_, (by first | (simp [upd]; done) | (simp [upd]; omega)), rfl, HG.out, World.grownBy.refl _ _⟩
      · have e17 : f' 17 = _ := hd ⟨17, .data⟩ (by simp) rfl
        unfold Oper.wp
        go_simp
        exact ⟨_, (by first | (simp [upd, e17]; done) | (simp [upd, e17]; omega)), rfl, HG.out, World.grownBy.refl _ _⟩
      · have e16 : f' 16 = _ := hd ⟨16, .data⟩ (by simp) rfl
        have e18 : f' 18 = _ := hd ⟨18, .data⟩ (by simp) rfl
        unfold Oper.wp
        go_simp
        refine (cmpI_any f.fp g.fp _).mono ?_
        rintro e w9 ⟨rfl, rfl⟩
        exact ⟨_, (by simp [upd, e16, e18]), rfl, HG.out, World.grownBy.refl _ _⟩
      · unfold Oper.wp
        go_simp
        exact ⟨_, (by first | (simp [upd]; done) | (simp [upd]; omega)), rfl, HG.out, World.grownBy.refl _ _⟩
      · have e20 : f' 20 = _ := hd ⟨20, .data⟩ (by simp) rfl
        unfold Oper.wp
        go_simp
        exact ⟨_, (by first | (simp [upd, e20]; done) | (simp [upd, e20]; omega)), rfl, HG.out, World.grownBy.refl _ _⟩
      · unfold Oper.wp
        go_simp
        exact ⟨_, (by first | (simp [upd]; done) | (simp [upd]; omega)), rfl, HG.out, World.grownBy.refl _ _⟩
      · have e22 : f' 22 = _ := hd ⟨22, .data⟩ (by simp) rfl
        unfold Oper.wp
        go_simp
        exact ⟨_, (by first | (simp [upd, e22]; done) | (simp [upd, e22]; omega)), rfl, HG.out, World.grownBy.refl _ _⟩
      · have e21 : f' 21 = _ := hd ⟨21, .data⟩ (by simp) rfl
        have e23 : f' 23 = _ := hd ⟨23, .data⟩ (by simp) rfl
        unfold Oper.wp
        go_simp
        refine (cmpI_any f.tp g.tp _).mono ?_
        rintro e w9 ⟨rfl, rfl⟩
        exact ⟨_, (by simp [upd, e21, e23]), rfl, HG.out, World.grownBy.refl _ _⟩
      · have e4 : f' 4 = _ := hd ⟨4, .data⟩ (by simp) rfl
        have e9 : f' 9 = _ := hd ⟨9, .data⟩ (by simp) rfl
        have e14 : f' 14 = _ := hd ⟨14, .data⟩ (by simp) rfl
        have e19 : f' 19 = _ := hd ⟨19, .data⟩ (by simp) rfl
        have e24 : f' 24 = _ := hd ⟨24, .data⟩ (by simp) rfl
        unfold Oper.wp
        go_simp
        exact ⟨_, (by simp [upd, e4, e9, e14, e19, e24]), ⟨_, rfl, al1 _ _⟩, bl_al HG.out, World.grownBy_alloc _ _ _⟩
      · have h9 : ∃ gz, f' 25 = .slice (some ⟨gz, 0, none⟩) 5 5 ∧ w'.heap[gz]? = some (.cells (([cmpI f.proto g.proto, cmpA ⟨f.s6, f.sh, f.sl⟩ ⟨g.s6, g.sh, g.sl⟩, cmpA ⟨f.t6, f.th, f.tl⟩ ⟨g.t6, g.th, g.tl⟩, cmpI f.fp g.fp, cmpI f.tp g.tp]).map (Value.int .i64)).toArray 3 (0, 0)) := hd ⟨25, .data⟩ (by simp) rfl
        obtain ⟨gz, e25, hgz⟩ := h9
        unfold Oper.wp
        go_simp
        refine (or_any gz ([cmpI f.proto g.proto, cmpA ⟨f.s6, f.sh, f.sl⟩ ⟨g.s6, g.sh, g.sl⟩, cmpA ⟨f.t6, f.th, f.tl⟩ ⟨g.t6, g.th, g.tl⟩, cmpI f.fp g.fp, cmpI f.tp g.tp]) _ hgz 5 5 rfl (by simp)).mono ?_
        rintro e w9 ⟨rfl, rfl⟩
        exact ⟨_, (by simp [upd, e25]), rfl, HG.out, World.grownBy.refl _ _⟩
    · intro o ho f' w' k hk hG hd
      have H1w := (hG.block _ hl1).trans H1.out
      have H2w := (hG.block _ hl2).trans H2.out
      have cy0 : w'.cell? ⟨(w.heap.size + 1), 0, none⟩ = some (.int .i64 g.proto) := cell_of H2w 0
      have cy1 : w'.cell? ⟨(w.heap.size + 1), 1, none⟩ = some (.bool g.s6) := cell_of H2w 1
      have cy2 : w'.cell? ⟨(w.heap.size + 1), 2, none⟩ = some (.int .u64 g.sh) := cell_of H2w 2
      have cy3 : w'.cell? ⟨(w.heap.size + 1), 3, none⟩ = some (.int .u64 g.sl) := cell_of H2w 3
      have cy4 : w'.cell? ⟨(w.heap.size + 1), 4, none⟩ = some (.bool g.t6) := cell_of H2w 4
      have cy5 : w'.cell? ⟨(w.heap.size + 1), 5, none⟩ = some (.int .u64 g.th) := cell_of H2w 5
      have cy6 : w'.cell? ⟨(w.heap.size + 1), 6, none⟩ = some (.int .u64 g.tl) := cell_of H2w 6
      have cy7 : w'.cell? ⟨(w.heap.size + 1), 7, none⟩ = some (.int .i64 g.fp) := cell_of H2w 7
      have cy8 : w'.cell? ⟨(w.heap.size + 1), 8, none⟩ = some (.int .i64 g.tp) := cell_of H2w 8
      have cx0 : w'.cell? ⟨w.heap.size, 0, none⟩ = some (.int .i64 f.proto) := cell_of H1w 0
      have cx1 : w'.cell? ⟨w.heap.size, 1, none⟩ = some (.bool f.s6) := cell_of H1w 1
      have cx2 : w'.cell? ⟨w.heap.size, 2, none⟩ = some (.int .u64 f.sh) := cell_of H1w 2
      have cx3 : w'.cell? ⟨w.heap.size, 3, none⟩ = some (.int .u64 f.sl) := cell_of H1w 3
      have cx4 : w'.cell? ⟨w.heap.size, 4, none⟩ = some (.bool f.t6) := cell_of H1w 4
      have cx5 : w'.cell? ⟨w.heap.size, 5, none⟩ = some (.int .u64 f.th) := cell_of H1w 5
      have cx6 : w'.cell? ⟨w.heap.size, 6, none⟩ = some (.int .u64 f.tl) := cell_of H1w 6
      have cx7 : w'.cell? ⟨w.heap.size, 7, none⟩ = some (.int .i64 f.fp) := cell_of H1w 7
      have cx8 : w'.cell? ⟨w.heap.size, 8, none⟩ = some (.int .i64 f.tp) := cell_of H1w 8
      have HG := Lib.hid hG
      clear hG H1w H2w
      have e26 : f' 26 = _ := hd 26 (by omega)
      replace ho := Option.some.inj ho
      subst ho
      unfold Oper.wp
      go_simp
      go_step
      go_meet
      exact ⟨rfl, HG.out⟩
  case rest =>
  obtain ⟨rfl, hb⟩ := hcut
  have HF := Lib.hid (HB0.out.trans (hb.mono HB0.out.size))
  clear hb
  go_wp2_with fail
  go_ret
  exact ⟨rfl, HF.out⟩
def rpA (r : Rp) : Array Value := #[.string r.node, .int .i64 r.hour, .bool r.out, .int .i64 r.f.proto, .bool r.f.s6, .int .u64 r.f.sh, .int .u64 r.f.sl, .bool r.f.t6, .int .u64 r.f.th, .int .u64 r.f.tl, .int .i64 r.f.fp, .int .i64 r.f.tp, .int .i64 r.pk, .int .i64 r.by_]
set_option maxRecDepth 100000 in
set_option maxHeartbeats 4000000 in
theorem compareReports_any (a b : Rp) (w : World) : Calls Tryz.prog 32 #[.agg (rpA a), .agg (rpA b)] w fun e w' => e = .returned (.int .i64 (cmpR a b)) ∧ Below w.heap.size w w' := by
  have h41 := al21 w (.cells (rpA a) 39) (.cells (rpA b) 39)
  have h42 := al22 w (.cells (rpA a) 39) (.cells (rpA b) 39)
  have HB0 := Lib.hid (bl_al (bl_alloc w (.cells (rpA a) 39)) (o := .cells (rpA b) 39))
  go_enter Tryz.func32, Tryz.ntmps32
  go_upto_region 1 with (fail)
  generalize hW : World.alloc _ _ = W0 at h41 h42 HB0 ⊢
  clear hW
  have hl1 := lt_of_block h41
  have hl2 := lt_of_block h42
  have H1 := Lib.hid h41
  have H2 := Lib.hid h42
  clear h41 h42
  go_cut [4] from 5 to 26 (fun v4 wc => v4 = .int .i64 (cmpR a b) ∧ Below W0.heap.size W0 wc)
  case first =>
    refine wp_region_drawn 22 (fun f' => ⟨#[.agg (rpA a), .agg (rpA b), .pointer (some ⟨w.heap.size, 0, none⟩), .pointer (some ⟨(w.heap.size + 1), 0, none⟩), .int .i64 0, f' 0, f' 1, f' 2, f' 3, f' 4, f' 5, f' 6, f' 7, f' 8, f' 9, f' 10, f' 11, f' 12, f' 13, f' 14, f' 15, f' 16, f' 17, f' 18, f' 19, f' 20, f' 21], []⟩) (VL [VIs (.pointer (some ⟨w.heap.size, 1, none⟩)), VIs (.int .i64 a.hour), VIs (.pointer (some ⟨(w.heap.size + 1), 1, none⟩)), VIs (.int .i64 b.hour), VIs (.int .i64 (cmpI a.hour b.hour)), VIs (.pointer (some ⟨w.heap.size, 0, none⟩)), VIs (.string a.node), VIs (.pointer (some ⟨(w.heap.size + 1), 0, none⟩)), VIs (.string b.node), VIs (.int .i64 (cmpS a.node b.node)), VIs (.pointer (some ⟨w.heap.size, 2, none⟩)), VIs (.bool a.out), VIs (.pointer (some ⟨(w.heap.size + 1), 2, none⟩)), VIs (.bool b.out), VIs (.int .i64 (cmpB a.out b.out)), VIs (.pointer (some ⟨w.heap.size, 3, none⟩)), VIs (.agg #[.int .i64 a.f.proto, .bool a.f.s6, .int .u64 a.f.sh, .int .u64 a.f.sl, .bool a.f.t6, .int .u64 a.f.th, .int .u64 a.f.tl, .int .i64 a.f.fp, .int .i64 a.f.tp]), VIs (.pointer (some ⟨(w.heap.size + 1), 3, none⟩)), VIs (.agg #[.int .i64 b.f.proto, .bool b.f.s6, .int .u64 b.f.sh, .int .u64 b.f.sl, .bool b.f.t6, .int .u64 b.f.th, .int .u64 b.f.tl, .int .i64 b.f.fp, .int .i64 b.f.tp]), VIs (.int .i64 (cmpF a.f b.f)), (fun w' v => ∃ gz, v = .slice (some ⟨gz, 0, none⟩) 4 4 ∧ w'.heap[gz]? = some (.cells (([cmpI a.hour b.hour, cmpS a.node b.node, cmpB a.out b.out, cmpF a.f b.f]).map (Value.int .i64)).toArray 3 (0, 0))), VIs (.int .i64 (orOf ([cmpI a.hour b.hour, cmpS a.node b.node, cmpB a.out b.out, cmpF a.f b.f])))]) (fun _ w' => Below W0.heap.size W0 w') (fun w w' => w.grownBy w' none) (fun _ => undef) (show Tryz.prog.follows .mixedOrders = true from by kernel_rfl) (by kernel_rfl) ?_ ?_ ?_ ((Below.refl _ _).drew)
    · exact fun i w w' v h hg => VL.stabG (Gr := fun w w' => w.grownBy w' none) (by
        intro q hq w w' v hv hg
        simp only [List.mem_cons, List.mem_nil_iff, or_false] at hq
        rcases hq with rfl | rfl | rfl | rfl | rfl | rfl | rfl | rfl | rfl | rfl | rfl | rfl | rfl | rfl | rfl | rfl | rfl | rfl | rfl | rfl | rfl | rfl <;> first | exact hv | (obtain ⟨gz, h1, h2⟩ := hv; exact ⟨gz, h1, (hg.block gz (lt_of_block h2) (by simp)).trans h2⟩)) i w w' v h hg
    · intro i o hi ho f' w' k hk hG hd
      have H1w := (hG.block _ hl1).trans H1.out
      have H2w := (hG.block _ hl2).trans H2.out
      have cy0 : w'.cell? ⟨(w.heap.size + 1), 0, none⟩ = some (.string b.node) := cell_of H2w 0
      have cy1 : w'.cell? ⟨(w.heap.size + 1), 1, none⟩ = some (.int .i64 b.hour) := cell_of H2w 1
      have cy2 : w'.cell? ⟨(w.heap.size + 1), 2, none⟩ = some (.bool b.out) := cell_of H2w 2
      have cy3 : w'.cell? ⟨(w.heap.size + 1), 3, none⟩ = some (.int .i64 b.f.proto) := cell_of H2w 3
      have cy4 : w'.cell? ⟨(w.heap.size + 1), 4, none⟩ = some (.bool b.f.s6) := cell_of H2w 4
      have cy5 : w'.cell? ⟨(w.heap.size + 1), 5, none⟩ = some (.int .u64 b.f.sh) := cell_of H2w 5
      have cy6 : w'.cell? ⟨(w.heap.size + 1), 6, none⟩ = some (.int .u64 b.f.sl) := cell_of H2w 6
      have cy7 : w'.cell? ⟨(w.heap.size + 1), 7, none⟩ = some (.bool b.f.t6) := cell_of H2w 7
      have cy8 : w'.cell? ⟨(w.heap.size + 1), 8, none⟩ = some (.int .u64 b.f.th) := cell_of H2w 8
      have cy9 : w'.cell? ⟨(w.heap.size + 1), 9, none⟩ = some (.int .u64 b.f.tl) := cell_of H2w 9
      have cy10 : w'.cell? ⟨(w.heap.size + 1), 10, none⟩ = some (.int .i64 b.f.fp) := cell_of H2w 10
      have cy11 : w'.cell? ⟨(w.heap.size + 1), 11, none⟩ = some (.int .i64 b.f.tp) := cell_of H2w 11
      have cx0 : w'.cell? ⟨w.heap.size, 0, none⟩ = some (.string a.node) := cell_of H1w 0
      have cx1 : w'.cell? ⟨w.heap.size, 1, none⟩ = some (.int .i64 a.hour) := cell_of H1w 1
      have cx2 : w'.cell? ⟨w.heap.size, 2, none⟩ = some (.bool a.out) := cell_of H1w 2
      have cx3 : w'.cell? ⟨w.heap.size, 3, none⟩ = some (.int .i64 a.f.proto) := cell_of H1w 3
      have cx4 : w'.cell? ⟨w.heap.size, 4, none⟩ = some (.bool a.f.s6) := cell_of H1w 4
      have cx5 : w'.cell? ⟨w.heap.size, 5, none⟩ = some (.int .u64 a.f.sh) := cell_of H1w 5
      have cx6 : w'.cell? ⟨w.heap.size, 6, none⟩ = some (.int .u64 a.f.sl) := cell_of H1w 6
      have cx7 : w'.cell? ⟨w.heap.size, 7, none⟩ = some (.bool a.f.t6) := cell_of H1w 7
      have cx8 : w'.cell? ⟨w.heap.size, 8, none⟩ = some (.int .u64 a.f.th) := cell_of H1w 8
      have cx9 : w'.cell? ⟨w.heap.size, 9, none⟩ = some (.int .u64 a.f.tl) := cell_of H1w 9
      have cx10 : w'.cell? ⟨w.heap.size, 10, none⟩ = some (.int .i64 a.f.fp) := cell_of H1w 10
      have cx11 : w'.cell? ⟨w.heap.size, 11, none⟩ = some (.int .i64 a.f.tp) := cell_of H1w 11
      have HG := Lib.hid hG
      clear hG H1w H2w
      have hcase : i = 0 ∨ i = 1 ∨ i = 2 ∨ i = 3 ∨ i = 4 ∨ i = 5 ∨ i = 6 ∨ i = 7 ∨ i = 8 ∨ i = 9 ∨ i = 10 ∨ i = 11 ∨ i = 12 ∨ i = 13 ∨ i = 14 ∨ i = 15 ∨ i = 16 ∨ i = 17 ∨ i = 18 ∨ i = 19 ∨ i = 20 ∨ i = 21 := by omega
      rcases hcase with rfl | rfl | rfl | rfl | rfl | rfl | rfl | rfl | rfl | rfl | rfl | rfl | rfl | rfl | rfl | rfl | rfl | rfl | rfl | rfl | rfl | rfl <;> (replace ho := Option.some.inj ho; subst ho)
      · unfold Oper.wp
        go_simp
        exact ⟨_, (by first | (simp [upd]; done) | (simp [upd]; omega)), rfl, HG.out, World.grownBy.refl _ _⟩
      · have e0 : f' 0 = _ := hd ⟨0, .data⟩ (by simp) rfl
        unfold Oper.wp
        go_simp
        exact ⟨_, (by first | (simp [upd, e0]; done) | (simp [upd, e0]; omega)), rfl, HG.out, World.grownBy.refl _ _⟩
      · unfold Oper.wp
        go_simp
        exact ⟨_, (by first | (simp [upd]; done) | (simp [upd]; omega)), rfl, HG.out, World.grownBy.refl _ _⟩
      · have e2 : f' 2 = _ := hd ⟨2, .data⟩ (by simp) rfl
        unfold Oper.wp
        go_simp
        exact ⟨_, (by first | (simp [upd, e2]; done) | (simp [upd, e2]; omega)), rfl, HG.out, World.grownBy.refl _ _⟩
      · have e1 : f' 1 = _ := hd ⟨1, .data⟩ (by simp) rfl
        have e3 : f' 3 = _ := hd ⟨3, .data⟩ (by simp) rfl
        unfold Oper.wp
        go_simp
        refine (cmpI_any a.hour b.hour _).mono ?_
        rintro e w9 ⟨rfl, rfl⟩
        exact ⟨_, (by simp [upd, e1, e3]), rfl, HG.out, World.grownBy.refl _ _⟩
      · unfold Oper.wp
        go_simp
        exact ⟨_, (by first | (simp [upd]; done) | (simp [upd]; omega)), rfl, HG.out, World.grownBy.refl _ _⟩
      · have e5 : f' 5 = _ := hd ⟨5, .data⟩ (by simp) rfl
        unfold Oper.wp
        go_simp
        exact ⟨_, (by first | (simp [upd, e5]; done) | (simp [upd, e5]; omega)), rfl, HG.out, World.grownBy.refl _ _⟩
      · unfold Oper.wp
        go_simp
        exact ⟨_, (by first | (simp [upd]; done) | (simp [upd]; omega)), rfl, HG.out, World.grownBy.refl _ _⟩
      · have e7 : f' 7 = _ := hd ⟨7, .data⟩ (by simp) rfl
        unfold Oper.wp
        go_simp
        exact ⟨_, (by first | (simp [upd, e7]; done) | (simp [upd, e7]; omega)), rfl, HG.out, World.grownBy.refl _ _⟩
      · have e6 : f' 6 = _ := hd ⟨6, .data⟩ (by simp) rfl
        have e8 : f' 8 = _ := hd ⟨8, .data⟩ (by simp) rfl
        unfold Oper.wp
        go_simp
        refine (cmpS_any a.node b.node _).mono ?_
        rintro e w9 ⟨rfl, rfl⟩
        exact ⟨_, (by simp [upd, e6, e8]), rfl, HG.out, World.grownBy.refl _ _⟩
      · unfold Oper.wp
        go_simp
        exact ⟨_, (by first | (simp [upd]; done) | (simp [upd]; omega)), rfl, HG.out, World.grownBy.refl _ _⟩
      · have e10 : f' 10 = _ := hd ⟨10, .data⟩ (by simp) rfl
        unfold Oper.wp
        go_simp
        exact ⟨_, (by first | (simp [upd, e10]; done) | (simp [upd, e10]; omega)), rfl, HG.out, World.grownBy.refl _ _⟩
      · unfold Oper.wp
        go_simp
        exact ⟨_, (by first | (simp [upd]; done) | (simp [upd]; omega)), rfl, HG.out, World.grownBy.refl _ _⟩
      · have e12 : f' 12 = _ := hd ⟨12, .data⟩ (by simp) rfl
        unfold Oper.wp
        go_simp
        exact ⟨_, (by first | (simp [upd, e12]; done) | (simp [upd, e12]; omega)), rfl, HG.out, World.grownBy.refl _ _⟩
      · have e11 : f' 11 = _ := hd ⟨11, .data⟩ (by simp) rfl
        have e13 : f' 13 = _ := hd ⟨13, .data⟩ (by simp) rfl
        unfold Oper.wp
        go_simp
        refine (compareBools_any a.out b.out _).mono ?_
        rintro e w9 ⟨rfl, rfl⟩
        exact ⟨_, (by simp [upd, e11, e13]), rfl, HG.out, World.grownBy.refl _ _⟩
      · unfold Oper.wp
        go_simp
        exact ⟨_, (by first | (simp [upd]; done) | (simp [upd]; omega)), rfl, HG.out, World.grownBy.refl _ _⟩
      · have e15 : f' 15 = _ := hd ⟨15, .data⟩ (by simp) rfl
        unfold Oper.wp
        go_simp
        exact ⟨_, (by first | (simp [upd, e15]; done) | (simp [upd, e15]; omega)), rfl, HG.out, World.grownBy.refl _ _⟩
      · unfold Oper.wp
        go_simp
        exact ⟨_, (by first | (simp [upd]; done) | (simp [upd]; omega)), rfl, HG.out, World.grownBy.refl _ _⟩
      · have e17 : f' 17 = _ := hd ⟨17, .data⟩ (by simp) rfl
        unfold Oper.wp
        go_simp
        exact ⟨_, (by first | (simp [upd, e17]; done) | (simp [upd, e17]; omega)), rfl, HG.out, World.grownBy.refl _ _⟩
      · have e16 : f' 16 = _ := hd ⟨16, .data⟩ (by simp) rfl
        have e18 : f' 18 = _ := hd ⟨18, .data⟩ (by simp) rfl
        unfold Oper.wp
        go_simp
        refine (compareFlows_any a.f b.f _).mono ?_
        rintro e w9 ⟨rfl, hb9⟩
        exact ⟨_, (by simp [upd, e16, e18]), rfl, HG.out.trans (hb9.mono HG.out.size), grownB hb9 none⟩
      · have e4 : f' 4 = _ := hd ⟨4, .data⟩ (by simp) rfl
        have e9 : f' 9 = _ := hd ⟨9, .data⟩ (by simp) rfl
        have e14 : f' 14 = _ := hd ⟨14, .data⟩ (by simp) rfl
        have e19 : f' 19 = _ := hd ⟨19, .data⟩ (by simp) rfl
        unfold Oper.wp
        go_simp
        exact ⟨_, (by simp [upd, e4, e9, e14, e19]), ⟨_, rfl, al1 _ _⟩, bl_al HG.out, World.grownBy_alloc _ _ _⟩
      · have h9 : ∃ gz, f' 20 = .slice (some ⟨gz, 0, none⟩) 4 4 ∧ w'.heap[gz]? = some (.cells (([cmpI a.hour b.hour, cmpS a.node b.node, cmpB a.out b.out, cmpF a.f b.f]).map (Value.int .i64)).toArray 3 (0, 0)) := hd ⟨20, .data⟩ (by simp) rfl
        obtain ⟨gz, e20, hgz⟩ := h9
        unfold Oper.wp
        go_simp
        refine (or_any gz ([cmpI a.hour b.hour, cmpS a.node b.node, cmpB a.out b.out, cmpF a.f b.f]) _ hgz 4 4 rfl (by simp)).mono ?_
        rintro e w9 ⟨rfl, rfl⟩
        exact ⟨_, (by simp [upd, e20]), rfl, HG.out, World.grownBy.refl _ _⟩
    · intro o ho f' w' k hk hG hd
      have H1w := (hG.block _ hl1).trans H1.out
      have H2w := (hG.block _ hl2).trans H2.out
      have cy0 : w'.cell? ⟨(w.heap.size + 1), 0, none⟩ = some (.string b.node) := cell_of H2w 0
      have cy1 : w'.cell? ⟨(w.heap.size + 1), 1, none⟩ = some (.int .i64 b.hour) := cell_of H2w 1
      have cy2 : w'.cell? ⟨(w.heap.size + 1), 2, none⟩ = some (.bool b.out) := cell_of H2w 2
      have cy3 : w'.cell? ⟨(w.heap.size + 1), 3, none⟩ = some (.int .i64 b.f.proto) := cell_of H2w 3
      have cy4 : w'.cell? ⟨(w.heap.size + 1), 4, none⟩ = some (.bool b.f.s6) := cell_of H2w 4
      have cy5 : w'.cell? ⟨(w.heap.size + 1), 5, none⟩ = some (.int .u64 b.f.sh) := cell_of H2w 5
      have cy6 : w'.cell? ⟨(w.heap.size + 1), 6, none⟩ = some (.int .u64 b.f.sl) := cell_of H2w 6
      have cy7 : w'.cell? ⟨(w.heap.size + 1), 7, none⟩ = some (.bool b.f.t6) := cell_of H2w 7
      have cy8 : w'.cell? ⟨(w.heap.size + 1), 8, none⟩ = some (.int .u64 b.f.th) := cell_of H2w 8
      have cy9 : w'.cell? ⟨(w.heap.size + 1), 9, none⟩ = some (.int .u64 b.f.tl) := cell_of H2w 9
      have cy10 : w'.cell? ⟨(w.heap.size + 1), 10, none⟩ = some (.int .i64 b.f.fp) := cell_of H2w 10
      have cy11 : w'.cell? ⟨(w.heap.size + 1), 11, none⟩ = some (.int .i64 b.f.tp) := cell_of H2w 11
      have cx0 : w'.cell? ⟨w.heap.size, 0, none⟩ = some (.string a.node) := cell_of H1w 0
      have cx1 : w'.cell? ⟨w.heap.size, 1, none⟩ = some (.int .i64 a.hour) := cell_of H1w 1
      have cx2 : w'.cell? ⟨w.heap.size, 2, none⟩ = some (.bool a.out) := cell_of H1w 2
      have cx3 : w'.cell? ⟨w.heap.size, 3, none⟩ = some (.int .i64 a.f.proto) := cell_of H1w 3
      have cx4 : w'.cell? ⟨w.heap.size, 4, none⟩ = some (.bool a.f.s6) := cell_of H1w 4
      have cx5 : w'.cell? ⟨w.heap.size, 5, none⟩ = some (.int .u64 a.f.sh) := cell_of H1w 5
      have cx6 : w'.cell? ⟨w.heap.size, 6, none⟩ = some (.int .u64 a.f.sl) := cell_of H1w 6
      have cx7 : w'.cell? ⟨w.heap.size, 7, none⟩ = some (.bool a.f.t6) := cell_of H1w 7
      have cx8 : w'.cell? ⟨w.heap.size, 8, none⟩ = some (.int .u64 a.f.th) := cell_of H1w 8
      have cx9 : w'.cell? ⟨w.heap.size, 9, none⟩ = some (.int .u64 a.f.tl) := cell_of H1w 9
      have cx10 : w'.cell? ⟨w.heap.size, 10, none⟩ = some (.int .i64 a.f.fp) := cell_of H1w 10
      have cx11 : w'.cell? ⟨w.heap.size, 11, none⟩ = some (.int .i64 a.f.tp) := cell_of H1w 11
      have HG := Lib.hid hG
      clear hG H1w H2w
      have e21 : f' 21 = _ := hd 21 (by omega)
      replace ho := Option.some.inj ho
      subst ho
      unfold Oper.wp
      go_simp
      go_step
      go_meet
      exact ⟨rfl, HG.out⟩
  case rest =>
  obtain ⟨rfl, hb⟩ := hcut
  have HF := Lib.hid (HB0.out.trans (hb.mono HB0.out.size))
  clear hb
  go_wp2_with fail
  go_ret
  exact ⟨rfl, HF.out⟩
end Go.Proofs.YthjfnlbekbhmgaaGreatDoor

namespace Go.Proofs.YthjfnlbekbhmgaaGreatDoor
open Go.RowKit Go.Hw

def flCode (f : Fl) : Int :=
  if (decide (f.proto < 1) || decide (255 < f.proto)) = true then 1
  else if addrCode f.s6 f.sh f.sl ≠ 0 then addrCode f.s6 f.sh f.sl
  else if addrCode f.t6 f.th f.tl ≠ 0 then addrCode f.t6 f.th f.tl
  else if (!(f.s6 == f.t6)) = true then 10
  else if ((decide (f.fp < 0) || decide (65535 < f.fp)) || ((f.fp != 0) && !(f.proto == 6 || f.proto == 17))) = true then 1
  else if ((decide (f.tp < 0) || decide (65535 < f.tp)) || ((f.tp != 0) && !(f.proto == 6 || f.proto == 17))) = true then 1
  else 0
theorem hasPortsV_any (n : Int) (w : World) : Calls Tryz.prog 58 #[.int .i64 n] w fun e w' => e = .returned (.bool (n == 6 || n == 17)) ∧ w = w' := by
  by_cases h : n = 6
  · subst h
    go_enter Tryz.func58, Tryz.ntmps58
    go_wp2_with fail
    go_ret
    exact ⟨rfl, rfl⟩
  · have e6 : (n == 6) = false := by simp [h]
    rw [e6]
    go_enter Tryz.func58, Tryz.ntmps58
    go_wp2_with fail
    go_ret
    exact ⟨by simp, rfl⟩
theorem idxF_0 (a0 a1 a2 b0 b1 b2 : Value) (w : World) : (Instr.index 117 (.agg #[a0, a1, a2, b0, b1, b2]) (.int .i64 0)).run Tryz.prog w = .ok (.agg #[a0, a1, a2]) w := by kernel_rfl
theorem idxF_1 (a0 a1 a2 b0 b1 b2 : Value) (w : World) : (Instr.index 117 (.agg #[a0, a1, a2, b0, b1, b2]) (.int .i64 1)).run Tryz.prog w = .ok (.agg #[b0, b1, b2]) w := by kernel_rfl
theorem idxP_0 (a b : Value) (w : World) : (Instr.index 32 (.agg #[a, b]) (.int .i64 0)).run Tryz.prog w = .ok a w := by kernel_rfl
theorem idxP_1 (a b : Value) (w : World) : (Instr.index 32 (.agg #[a, b]) (.int .i64 1)).run Tryz.prog w = .ok b w := by kernel_rfl
set_option maxRecDepth 100000 in
set_option maxHeartbeats 4000000 in
theorem flowFault_any (f : Fl) (w : World) (h0 : 0 ≤ f.sh ∧ 0 ≤ f.th) : Calls Tryz.prog 31 #[.agg (flA f)] w fun e w' => e = .returned (.int .i64 (flCode f)) ∧ Below w.heap.size w w' := by
  have HF : Hid (flCode f = if (decide (f.proto < 1) || decide (255 < f.proto)) = true then 1
    else if addrCode f.s6 f.sh f.sl ≠ 0 then addrCode f.s6 f.sh f.sl
    else if addrCode f.t6 f.th f.tl ≠ 0 then addrCode f.t6 f.th f.tl
    else if (!(f.s6 == f.t6)) = true then 10
    else if ((decide (f.fp < 0) || decide (65535 < f.fp)) || ((f.fp != 0) && !(f.proto == 6 || f.proto == 17))) = true then 1
    else if ((decide (f.tp < 0) || decide (65535 < f.tp)) || ((f.tp != 0) && !(f.proto == 6 || f.proto == 17))) = true then 1
    else 0) := Lib.hid rfl
  have hca := fun W => checkAddr_any f.s6 f.sh f.sl W h0.1
  have hcb := fun W => checkAddr_any f.t6 f.th f.tl W h0.2
  have ho := fun W => outside_any f.proto 1 255 W
  have ho1 := fun W => outside_any f.fp 0 65535 W
  have ho2 := fun W => outside_any f.tp 0 65535 W
  have hh := fun W => hasPortsV_any f.proto W
  have hi0 := idxF_0
  have hi1 := idxF_1
  have hj0 := idxP_0
  have hj1 := idxP_1
  have HB0 := Lib.hid (bl_alloc w (.cells (flA f) 37))
  have h41 := al1 w (.cells (flA f) 37)
  generalize (decide (f.proto < 1) || decide (255 < f.proto)) = o0 at HF ho
  generalize addrCode f.s6 f.sh f.sl = ca at HF hca
  generalize addrCode f.t6 f.th f.tl = cb at HF hcb
  generalize (decide (f.fp < 0) || decide (65535 < f.fp)) = o1 at HF ho1
  generalize (decide (f.tp < 0) || decide (65535 < f.tp)) = o2 at HF ho2
  generalize hpp : (f.proto == 6 || f.proto == 17) = pp at HF hh
  obtain ⟨z1, hz1⟩ : ∃ z, (f.fp != 0) = z := ⟨_, rfl⟩
  obtain ⟨z2, hz2⟩ : ∃ z, (f.tp != 0) = z := ⟨_, rfl⟩
  obtain ⟨s, hs⟩ : ∃ z, (f.s6 == f.t6) = z := ⟨_, rfl⟩
  rw [hz1, hz2, hs] at HF
  clear hpp
  go_enter Tryz.func31, Tryz.ntmps31
  go_upto_region 1 with (fail)
  generalize hW : World.alloc _ _ = W0 at h41 HB0 ⊢
  clear hW
  have H0 := Lib.hid h41
  have lB := lt_of_block h41
  have c0 : W0.cell? ⟨w.heap.size, 0, none⟩ = some (.int .i64 f.proto) := cell_of h41 0
  have c1 : W0.cell? ⟨w.heap.size, 1, none⟩ = some (.bool f.s6) := cell_of h41 1
  have c2 : W0.cell? ⟨w.heap.size, 2, none⟩ = some (.int .u64 f.sh) := cell_of h41 2
  have c3 : W0.cell? ⟨w.heap.size, 3, none⟩ = some (.int .u64 f.sl) := cell_of h41 3
  have c4 : W0.cell? ⟨w.heap.size, 4, none⟩ = some (.bool f.t6) := cell_of h41 4
  have c5 : W0.cell? ⟨w.heap.size, 5, none⟩ = some (.int .u64 f.th) := cell_of h41 5
  have c6 : W0.cell? ⟨w.heap.size, 6, none⟩ = some (.int .u64 f.tl) := cell_of h41 6
  have c7 : W0.cell? ⟨w.heap.size, 7, none⟩ = some (.int .i64 f.fp) := cell_of h41 7
  have c8 : W0.cell? ⟨w.heap.size, 8, none⟩ = some (.int .i64 f.tp) := cell_of h41 8
  clear h41
  go_wp2_with fail
  refine (ho W0).mono ?_
  rintro e w9 ⟨rfl, rfl⟩
  cases o0
  rotate_left
  · go_wp2_with fail
    go_ret
    exact ⟨by rw [HF.out]; rfl, HB0.out⟩
  have HF := Lib.hid (HF.out.trans (if_neg (by decide)))
  go_wp2_with fail
  refine wp_loop_rounds 3 ?_
  rw [rounds_succ]
  go_wp2_with fail
  have HN := Lib.hid (bl_alloc W0 (.cells #[.bool f.s6, .int .u64 f.sh, .int .u64 f.sl] 35))
  refine (hca _).mono ?_
  rintro e W1 ⟨rfl, hb1⟩
  have HBS := Lib.hid (HN.out.trans (hb1.mono HN.out.size))
  have h2 := (HBS.out.block _ (lt_of_block H0.out)).trans H0.out
  have HB1 := Lib.hid (HB0.out.trans (HBS.out.mono HB0.out.size))
  have H1 := Lib.hid h2
  clear hb1 HBS HN
  clear c0 c1 c2 c3 c4 c5 c6 c7 c8 lB
  by_cases hc1 : ca = 0
  rotate_left
  · have e1 : (ca != 0) = true := by simp [hc1]
    have HF := Lib.hid (HF.out.trans (if_pos hc1))
    clear h2 hc1
    go_wp2_with fail
    go_ret
    exact ⟨by rw [HF.out]; rfl, HB1.out⟩
  subst hc1
  have HF := Lib.hid (HF.out.trans (if_neg (by simp)))
  have lB := lt_of_block h2
  have c0 : W1.cell? ⟨w.heap.size, 0, none⟩ = some (.int .i64 f.proto) := cell_of h2 0
  have c1 : W1.cell? ⟨w.heap.size, 1, none⟩ = some (.bool f.s6) := cell_of h2 1
  have c2 : W1.cell? ⟨w.heap.size, 2, none⟩ = some (.int .u64 f.sh) := cell_of h2 2
  have c3 : W1.cell? ⟨w.heap.size, 3, none⟩ = some (.int .u64 f.sl) := cell_of h2 3
  have c4 : W1.cell? ⟨w.heap.size, 4, none⟩ = some (.bool f.t6) := cell_of h2 4
  have c5 : W1.cell? ⟨w.heap.size, 5, none⟩ = some (.int .u64 f.th) := cell_of h2 5
  have c6 : W1.cell? ⟨w.heap.size, 6, none⟩ = some (.int .u64 f.tl) := cell_of h2 6
  have c7 : W1.cell? ⟨w.heap.size, 7, none⟩ = some (.int .i64 f.fp) := cell_of h2 7
  have c8 : W1.cell? ⟨w.heap.size, 8, none⟩ = some (.int .i64 f.tp) := cell_of h2 8
  clear h2
  go_wp2_with fail
  rw [rounds_succ]
  go_wp2_with fail
  have HN := Lib.hid (bl_alloc W1 (.cells #[.bool f.t6, .int .u64 f.th, .int .u64 f.tl] 35))
  refine (hcb _).mono ?_
  rintro e W2 ⟨rfl, hb1⟩
  have HBS := Lib.hid (HN.out.trans (hb1.mono HN.out.size))
  have h2 := (HBS.out.block _ (lt_of_block H1.out)).trans H1.out
  have HB2 := Lib.hid (HB1.out.trans (HBS.out.mono HB1.out.size))
  have H2 := Lib.hid h2
  clear hb1 HBS HN
  clear c0 c1 c2 c3 c4 c5 c6 c7 c8 lB
  by_cases hc2 : cb = 0
  rotate_left
  · have e1 : (cb != 0) = true := by simp [hc2]
    have HF := Lib.hid (HF.out.trans (if_pos hc2))
    clear h2 hc2
    go_wp2_with fail
    go_ret
    exact ⟨by rw [HF.out]; rfl, HB2.out⟩
  subst hc2
  have HF := Lib.hid (HF.out.trans (if_neg (by simp)))
  have lB := lt_of_block h2
  have c0 : W2.cell? ⟨w.heap.size, 0, none⟩ = some (.int .i64 f.proto) := cell_of h2 0
  have c1 : W2.cell? ⟨w.heap.size, 1, none⟩ = some (.bool f.s6) := cell_of h2 1
  have c2 : W2.cell? ⟨w.heap.size, 2, none⟩ = some (.int .u64 f.sh) := cell_of h2 2
  have c3 : W2.cell? ⟨w.heap.size, 3, none⟩ = some (.int .u64 f.sl) := cell_of h2 3
  have c4 : W2.cell? ⟨w.heap.size, 4, none⟩ = some (.bool f.t6) := cell_of h2 4
  have c5 : W2.cell? ⟨w.heap.size, 5, none⟩ = some (.int .u64 f.th) := cell_of h2 5
  have c6 : W2.cell? ⟨w.heap.size, 6, none⟩ = some (.int .u64 f.tl) := cell_of h2 6
  have c7 : W2.cell? ⟨w.heap.size, 7, none⟩ = some (.int .i64 f.fp) := cell_of h2 7
  have c8 : W2.cell? ⟨w.heap.size, 8, none⟩ = some (.int .i64 f.tp) := cell_of h2 8
  clear h2
  go_wp2_with fail
  rw [rounds_succ]
  cases s
  · have HF := Lib.hid (HF.out.trans (if_pos rfl))
    go_wp2_with fail
    go_ret
    exact ⟨by rw [HF.out]; rfl, HB2.out⟩
  have HF := Lib.hid (HF.out.trans (if_neg (by decide)))
  go_wp2_with fail
  refine wp_loop_rounds 3 ?_
  rw [rounds_succ]
  go_wp2_with fail
  refine (ho1 W2).mono ?_
  rintro e w9 ⟨rfl, rfl⟩
  cases o1
  rotate_left
  · have HF := Lib.hid (HF.out.trans (if_pos rfl))
    go_wp2_with fail
    go_ret
    exact ⟨by rw [HF.out]; rfl, HB2.out⟩
  cases z1
  · have HF := Lib.hid (HF.out.trans (if_neg (by simp)))
    go_wp2_with fail
    rw [rounds_succ]
    go_wp2_with fail
    refine (ho2 W2).mono ?_
    rintro e w9 ⟨rfl, rfl⟩
    cases o2
    rotate_left
    · have HF := Lib.hid (HF.out.trans (if_pos rfl))
      go_wp2_with fail
      go_ret
      exact ⟨by rw [HF.out]; rfl, HB2.out⟩
    cases z2
    · have HF := Lib.hid (HF.out.trans (if_neg (by simp)))
      go_wp2_with fail
      rw [rounds_succ]
      go_wp2_with fail
      go_ret
      exact ⟨by rw [HF.out]; rfl, HB2.out⟩
    · go_wp2_with fail
      refine (hh W2).mono ?_
      rintro e w9 ⟨rfl, rfl⟩
      cases pp
      · have HF := Lib.hid (HF.out.trans (if_pos rfl))
        go_wp2_with fail
        go_ret
        exact ⟨by rw [HF.out]; rfl, HB2.out⟩
      · have HF := Lib.hid (HF.out.trans (if_neg (by simp)))
        go_wp2_with fail
        rw [rounds_succ]
        go_wp2_with fail
        go_ret
        exact ⟨by rw [HF.out]; rfl, HB2.out⟩
  · go_wp2_with fail
    refine (hh W2).mono ?_
    rintro e w9 ⟨rfl, rfl⟩
    cases pp
    · have HF := Lib.hid (HF.out.trans (if_pos rfl))
      go_wp2_with fail
      go_ret
      exact ⟨by rw [HF.out]; rfl, HB2.out⟩
    · have HF := Lib.hid (HF.out.trans (if_neg (by simp)))
      go_wp2_with fail
      rw [rounds_succ]
      go_wp2_with fail
      refine (ho2 W2).mono ?_
      rintro e w9 ⟨rfl, rfl⟩
      cases o2
      rotate_left
      · have HF := Lib.hid (HF.out.trans (if_pos rfl))
        go_wp2_with fail
        go_ret
        exact ⟨by rw [HF.out]; rfl, HB2.out⟩
      cases z2
      · have HF := Lib.hid (HF.out.trans (if_neg (by simp)))
        go_wp2_with fail
        rw [rounds_succ]
        go_wp2_with fail
        go_ret
        exact ⟨by rw [HF.out]; rfl, HB2.out⟩
      · have HF := Lib.hid (HF.out.trans (if_neg (by simp)))
        go_wp2_with fail
        refine (hh W2).mono ?_
        rintro e w9 ⟨rfl, rfl⟩
        go_wp2_with fail
        rw [rounds_succ]
        go_wp2_with fail
        go_ret
        exact ⟨by rw [HF.out]; rfl, HB2.out⟩
end Go.Proofs.YthjfnlbekbhmgaaGreatDoor

namespace Go.Proofs.YthjfnlbekbhmgaaGreatDoor
open Go.RowKit Go.Hw

/-- What is wrong with report i. -/
def rpCode (L : List Rp) (i : Nat) : Int :=
  if isKey (L.getD i noRp).node = false then 5
  else if (decide ((L.getD i noRp).hour < 0) || decide (96023 < (L.getD i noRp).hour)) = true then 1
  else if flCode (L.getD i noRp).f ≠ 0 then flCode (L.getD i noRp).f
  else if (decide ((L.getD i noRp).pk < 1) || decide (1000000000000 < (L.getD i noRp).pk)) = true then 1
  else if (decide ((L.getD i noRp).by_ < 0) || decide (1000000000000 < (L.getD i noRp).by_)) = true then 1
  else if (decide (0 < i) && decide (0 ≤ cmpR (L.getD (i - 1) noRp) (L.getD i noRp))) = true then 7
  else 0
def ckR (L : List Rp) : Int := (((List.range L.length).map (rpCode L)).find? (fun c => decide (c ≠ 0))).getD 0
theorem ckR_at {L : List Rp} {k : Nat} (hk : k < L.length) (h : ∀ j, j < k → rpCode L j = 0) (hf : rpCode L k ≠ 0) : ckR L = rpCode L k := find_range hk h hf
theorem ckR_none {L : List Rp} (h : ∀ j, j < L.length → rpCode L j = 0) : ckR L = 0 := find_range_none h
/-- The fields are numbers of the machine. -/
structure RpT (r : Rp) : Prop where
  node : r.node.size ≤ 1000
  sh : 0 ≤ r.f.sh ∧ r.f.sh ≤ 18446744073709551615
  sl : 0 ≤ r.f.sl ∧ r.f.sl ≤ 18446744073709551615
  th : 0 ≤ r.f.th ∧ r.f.th ≤ 18446744073709551615
  tl : 0 ≤ r.f.tl ∧ r.f.tl ≤ 18446744073709551615
theorem rpC_arr (r : Rp) : (rpC r).toArray = rpA r := rfl
set_option maxRecDepth 100000 in
set_option maxHeartbeats 4000000 in
theorem checkR_any (A : Option Addr) (cap : Nat) (L : List Rp) (w : World) (h : rpAt w A L) (hl : L.length ≤ 3000) (ht : ∀ r ∈ L, RpT r) :
    Calls Tryz.prog 7 #[.slice A L.length cap] w fun e w' => e = .returned (.int .i64 (ckR L)) ∧ Below w.heap.size w w' := by
  have d0 : decide ((3000 : Int) < (L.length : Int)) = false := by simp; omega
  have HA := Lib.hid h
  have HT := Lib.hid ht
  clear h ht
  go_enter Tryz.func7, Tryz.ntmps7
  go_wp2_with fail
  go_loopw [11] (fun v11 wr => ∃ k : Nat, k ≤ L.length ∧ v11 = .int .i64 k ∧ (∀ j, j < k → rpCode L j = 0) ∧ Below w.heap.size w wr) (fun v11 _ => L.length - (intOf v11).toNat)
  case atStart => exact ⟨0, Nat.zero_le _, rfl, fun j hj => by omega, Below.refl _ _⟩
  case round =>
    obtain ⟨k, hk, rfl, hf, hb⟩ := hrel
    have HFJ := Lib.hid hf
    have HB := Lib.hid hb
    clear hf hb
    by_cases hlt : k < L.length
    · have hd : decide ((k : Int) < (L.length : Int)) = true := by simp; omega
      have hlt' : (k : Int) < (L.length : Int) := by omega
      obtain ⟨g, off, rfl, hgB, hcc⟩ := (HA.out.below HB.out) k hlt
      have hrt := HT.out _ (rw_mem (d := noRp) hlt)
      have HCode : Hid (rpCode L k = if isKey (L.getD k noRp).node = false then 5
        else if (decide ((L.getD k noRp).hour < 0) || decide (96023 < (L.getD k noRp).hour)) = true then 1
        else if flCode (L.getD k noRp).f ≠ 0 then flCode (L.getD k noRp).f
        else if (decide ((L.getD k noRp).pk < 1) || decide (1000000000000 < (L.getD k noRp).pk)) = true then 1
        else if (decide ((L.getD k noRp).by_ < 0) || decide (1000000000000 < (L.getD k noRp).by_)) = true then 1
        else if (decide (0 < k) && decide (0 ≤ cmpR (L.getD (k - 1) noRp) (L.getD k noRp))) = true then 7
        else 0) := Lib.hid rfl
      have HBAD : Hid (∀ c : Int, rpCode L k = c → c ≠ 0 → ckR L = c) := Lib.hid (fun c h1 h2 => by rw [← h1]; exact ckR_at hlt HFJ.out (by rw [h1]; exact h2))
      have HPRE : Hid (0 < k → RwCells wr g (off + (k - 1) * 14) (rpC (L.getD (k - 1) noRp))) := Lib.hid (fun h0 => by
        obtain ⟨g', off', e, _, hx⟩ := (HA.out.below HB.out) (k - 1) (by omega)
        injection e with e
        simp only [Addr.mk.injEq, and_true] at e
        obtain ⟨rfl, rfl⟩ := e
        exact hx)
      generalize hx : L.getD k noRp = x at hcc hrt HCode
      have HX := Lib.hid hx
      clear hx
      generalize L.getD (k - 1) noRp = y at HCode HPRE
      have h3 := al1 wr (.cells (rpA noRp) 39)
      have HCC := Lib.hid hcc
      clear hcc
      have ho1 := fun W => outside_any x.hour 0 96023 W
      have ho2 := fun W => outside_any x.pk 1 1000000000000 W
      have ho3 := fun W => outside_any x.by_ 0 1000000000000 W
      have hky := fun W => isKey_any x.node W (by have := hrt.node; unfold maxLen; omega)
      have hff := fun W => flowFault_any x.f W ⟨hrt.sh.1, hrt.th.1⟩
      generalize (decide (x.hour < 0) || decide (96023 < x.hour)) = o1 at HCode ho1
      generalize (decide (x.pk < 1) || decide (1000000000000 < x.pk)) = o2 at HCode ho2
      generalize (decide (x.by_ < 0) || decide (1000000000000 < x.by_)) = o3 at HCode ho3
      generalize isKey x.node = ky at HCode hky
      generalize flCode x.f = fc at HCode hff
      go_upto_region 5 with (fail)
      first | refine load_stepR rfl HCC.out (by kernel_rfl) rfl (by kernel_rfl) ?_ | (go_step; first | refine load_stepR rfl HCC.out (by kernel_rfl) rfl (by kernel_rfl) ?_ | (go_step; first | refine load_stepR rfl HCC.out (by kernel_rfl) rfl (by kernel_rfl) ?_ | (go_step; first | refine load_stepR rfl HCC.out (by kernel_rfl) rfl (by kernel_rfl) ?_ | (go_step; first | refine load_stepR rfl HCC.out (by kernel_rfl) rfl (by kernel_rfl) ?_ | (go_step; first | refine load_stepR rfl HCC.out (by kernel_rfl) rfl (by kernel_rfl) ?_ | (go_step; first | refine load_stepR rfl HCC.out (by kernel_rfl) rfl (by kernel_rfl) ?_ | (go_step; first | refine load_stepR rfl HCC.out (by kernel_rfl) rfl (by kernel_rfl) ?_ | (go_step; first | refine load_stepR rfl HCC.out (by kernel_rfl) rfl (by kernel_rfl) ?_ | (go_step; first | refine load_stepR rfl HCC.out (by kernel_rfl) rfl (by kernel_rfl) ?_ | (go_step; first | refine load_stepR rfl HCC.out (by kernel_rfl) rfl (by kernel_rfl) ?_ | (go_step; first | refine load_stepR rfl HCC.out (by kernel_rfl) rfl (by kernel_rfl) ?_ | (go_step; first | refine load_stepR rfl HCC.out (by kernel_rfl) rfl (by kernel_rfl) ?_ | (go_step; first | refine load_stepR rfl HCC.out (by kernel_rfl) rfl (by kernel_rfl) ?_ | (go_step; refine load_stepR rfl HCC.out (by kernel_rfl) rfl (by kernel_rfl) ?_))))))))))))))
      first | refine store_step (vs := rpA x) rfl rfl h3 (by rfl) (by kernel_rfl) (by simp [Value.oneCell', rpA]) (fun W1 hr => ?_) | (go_step; first | refine store_step (vs := rpA x) rfl rfl h3 (by rfl) (by kernel_rfl) (by simp [Value.oneCell', rpA]) (fun W1 hr => ?_) | (go_step; first | refine store_step (vs := rpA x) rfl rfl h3 (by rfl) (by kernel_rfl) (by simp [Value.oneCell', rpA]) (fun W1 hr => ?_) | (go_step; first | refine store_step (vs := rpA x) rfl rfl h3 (by rfl) (by kernel_rfl) (by simp [Value.oneCell', rpA]) (fun W1 hr => ?_) | (go_step; first | refine store_step (vs := rpA x) rfl rfl h3 (by rfl) (by kernel_rfl) (by simp [Value.oneCell', rpA]) (fun W1 hr => ?_) | (go_step; first | refine store_step (vs := rpA x) rfl rfl h3 (by rfl) (by kernel_rfl) (by simp [Value.oneCell', rpA]) (fun W1 hr => ?_) | (go_step; first | refine store_step (vs := rpA x) rfl rfl h3 (by rfl) (by kernel_rfl) (by simp [Value.oneCell', rpA]) (fun W1 hr => ?_) | (go_step; first | refine store_step (vs := rpA x) rfl rfl h3 (by rfl) (by kernel_rfl) (by simp [Value.oneCell', rpA]) (fun W1 hr => ?_) | (go_step; first | refine store_step (vs := rpA x) rfl rfl h3 (by rfl) (by kernel_rfl) (by simp [Value.oneCell', rpA]) (fun W1 hr => ?_) | (go_step; first | refine store_step (vs := rpA x) rfl rfl h3 (by rfl) (by kernel_rfl) (by simp [Value.oneCell', rpA]) (fun W1 hr => ?_) | (go_step; first | refine store_step (vs := rpA x) rfl rfl h3 (by rfl) (by kernel_rfl) (by simp [Value.oneCell', rpA]) (fun W1 hr => ?_) | (go_step; first | refine store_step (vs := rpA x) rfl rfl h3 (by rfl) (by kernel_rfl) (by simp [Value.oneCell', rpA]) (fun W1 hr => ?_) | (go_step; first | refine store_step (vs := rpA x) rfl rfl h3 (by rfl) (by kernel_rfl) (by simp [Value.oneCell', rpA]) (fun W1 hr => ?_) | (go_step; first | refine store_step (vs := rpA x) rfl rfl h3 (by rfl) (by kernel_rfl) (by simp [Value.oneCell', rpA]) (fun W1 hr => ?_) | (go_step; refine store_step (vs := rpA x) rfl rfl h3 (by rfl) (by kernel_rfl) (by simp [Value.oneCell', rpA]) (fun W1 hr => ?_)))))))))))))))
      have hb1 : Below wr.heap.size wr W1 := hr.below (bl_alloc wr _) (Nat.le_refl _)
      have hblk := hr.blk
      generalize hP : wr.heap.size = P at hblk ⊢
      have HP : Hid (wr.heap.size = P) := Lib.hid hP
      have HB1 : Hid (Below w.heap.size w W1) := Lib.hid (HB.out.trans (hb1.mono HB.out.size))
      have HBL := Lib.hid hb1
      have H1 := Lib.hid hblk
      clear h3 hr hP hb1
      have c0 : W1.cell? ⟨P, 0, none⟩ = some (.string x.node) := cell_of hblk 0
      have c1 : W1.cell? ⟨P, 1, none⟩ = some (.int .i64 x.hour) := cell_of hblk 1
      clear hblk
      go_wp2_with fail
      refine (hky _).mono ?_
      rintro e w9 ⟨rfl, rfl⟩
      cases ky
      · have HF := Lib.hid (HBAD.out _ (HCode.out.trans (if_pos rfl)) (by decide))
        go_wp2_with fail
        go_ret
        exact ⟨by rw [HF.out]; rfl, HB1.out⟩
      have HCode := Lib.hid (HCode.out.trans (if_neg (by decide)))
      go_wp2_with fail
      refine (ho1 _).mono ?_
      rintro e w9 ⟨rfl, rfl⟩
      clear c0 c1
      have hblk := H1.out
      have c3 : W1.cell? ⟨P, 3, none⟩ = some (.int .i64 x.f.proto) := cell_of hblk 3
      have c4 : W1.cell? ⟨P, 4, none⟩ = some (.bool x.f.s6) := cell_of hblk 4
      have c5 : W1.cell? ⟨P, 5, none⟩ = some (.int .u64 x.f.sh) := cell_of hblk 5
      have c6 : W1.cell? ⟨P, 6, none⟩ = some (.int .u64 x.f.sl) := cell_of hblk 6
      have c7 : W1.cell? ⟨P, 7, none⟩ = some (.bool x.f.t6) := cell_of hblk 7
      have c8 : W1.cell? ⟨P, 8, none⟩ = some (.int .u64 x.f.th) := cell_of hblk 8
      have c9 : W1.cell? ⟨P, 9, none⟩ = some (.int .u64 x.f.tl) := cell_of hblk 9
      have c10 : W1.cell? ⟨P, 10, none⟩ = some (.int .i64 x.f.fp) := cell_of hblk 10
      have c11 : W1.cell? ⟨P, 11, none⟩ = some (.int .i64 x.f.tp) := cell_of hblk 11
      clear hblk
      cases o1
      rotate_left
      · have HF := Lib.hid (HBAD.out _ (HCode.out.trans (if_pos rfl)) (by decide))
        go_wp2_with fail
        go_ret
        exact ⟨by rw [HF.out]; rfl, HB1.out⟩
      have HCode := Lib.hid (HCode.out.trans (if_neg (by decide)))
      go_wp2_with fail
      refine (hff W1).mono ?_
      rintro e W2 ⟨rfl, hb2⟩
      have hblk := (hb2.block P (lt_of_block H1.out)).trans H1.out
      have H2 := Lib.hid hblk
      have HB2 : Hid (Below w.heap.size w W2) := Lib.hid (HB1.out.trans (hb2.mono HB1.out.size))
      have HBL2 : Hid (Below wr.heap.size wr W2) := Lib.hid (HBL.out.trans (hb2.mono HBL.out.size))
      clear c3 c4 c5 c6 c7 c8 c9 c10 c11 hb2
      have c12 : W2.cell? ⟨P, 12, none⟩ = some (.int .i64 x.pk) := cell_of hblk 12
      have c13 : W2.cell? ⟨P, 13, none⟩ = some (.int .i64 x.by_) := cell_of hblk 13
      clear hblk
      by_cases hfc : fc = 0
      rotate_left
      · have e1 : (fc != 0) = true := by simp [hfc]
        have HF := Lib.hid (HBAD.out _ (HCode.out.trans (if_pos hfc)) hfc)
        clear hfc
        go_wp2_with fail
        go_ret
        exact ⟨by rw [HF.out]; rfl, HB2.out⟩
      subst hfc
      have HCode := Lib.hid (HCode.out.trans (if_neg (by simp)))
      go_wp2_with fail
      refine (ho2 _).mono ?_
      rintro e w9 ⟨rfl, rfl⟩
      cases o2
      rotate_left
      · have HF := Lib.hid (HBAD.out _ (HCode.out.trans (if_pos rfl)) (by decide))
        go_wp2_with fail
        go_ret
        exact ⟨by rw [HF.out]; rfl, HB2.out⟩
      have HCode := Lib.hid (HCode.out.trans (if_neg (by decide)))
      go_wp2_with fail
      refine (ho3 _).mono ?_
      rintro e w9 ⟨rfl, rfl⟩
      cases o3
      rotate_left
      · have HF := Lib.hid (HBAD.out _ (HCode.out.trans (if_pos rfl)) (by decide))
        go_wp2_with fail
        go_ret
        exact ⟨by rw [HF.out]; rfl, HB2.out⟩
      have HCode := Lib.hid (HCode.out.trans (if_neg (by decide)))
      clear c12 c13 ho1 ho2 ho3 hky hff
      go_upto_region 15 with (fail)
      by_cases hk0 : k = 0
      · have HCode : Hid (rpCode L k = 0) := Lib.hid (HCode.out.trans (if_neg (by simp [hk0])))
        have dk : decide ((0 : Int) < (k : Int)) = false := by simp; omega
        have dkn : ¬ 0 < k := by omega
        clear hk0
        go_cut [50] from 39 to 49 (fun v50 wc => v50 = .bool false ∧ Below W2.heap.size W2 wc)
        case first =>
          refine wp_region_exact 11 (fun f' => ⟨#[.slice (some ⟨g, off, none⟩) L.length cap, undef, u2, .int .i64 k, .pointer (some ⟨P, 0, none⟩), .int .i64 0, .slice (some ⟨g, off, none⟩) L.length cap, .int .i64 L.length, .bool false, .slice (some ⟨g, off, none⟩) L.length cap, .int .i64 L.length, .int .i64 k, .bool true, .int .i64 k, .pointer (some ⟨g, off + k * 14, none⟩), .agg (rpC x).toArray, .bool false, .pointer (some ⟨P, 0, none⟩), .string x.node, .bool true, .bool false, .bool false, .pointer (some ⟨P, 1, none⟩), .int .i64 x.hour, .bool false, .pointer (some ⟨P, 3, none⟩), .agg #[Value.int IntKind.i64 x.f.proto, Value.bool x.f.s6, Value.int IntKind.u64 x.f.sh, Value.int IntKind.u64 x.f.sl, Value.bool x.f.t6, Value.int IntKind.u64 x.f.th, Value.int IntKind.u64 x.f.tl, Value.int IntKind.i64 x.f.fp, Value.int IntKind.i64 x.f.tp], .int .i64 0, .int .i64 0, .bool false, u30, .pointer (some ⟨P, 12, none⟩), .int .i64 x.pk, .bool false, .bool false, .pointer (some ⟨P, 13, none⟩), .int .i64 x.by_, .bool false, .bool false, f' 0, f' 1, f' 2, f' 3, f' 4, f' 5, f' 6, f' 7, f' 8, f' 9, f' 10, u50, u51], []⟩) (fun i => match i with | 0 => .int .i64 k | 1 => .bool false | 2 => .bool false | 3 => undef | 4 => undef | 5 => undef | 6 => undef | 7 => undef | 8 => undef | 9 => undef | 10 => undef | _ => undef) (fun lb w' => Hid (Below W2.heap.size W2 w')) (fun i => match i with | 0 => u39 | 1 => u40 | 2 => u41 | 3 => u42 | 4 => u43 | 5 => u44 | 6 => u45 | 7 => u46 | 8 => u47 | 9 => u48 | 10 => u49 | _ => undef) 10 (show Tryz.prog.follows .mixedOrders = true from by kernel_rfl) (by kernel_rfl) ?_ ?_ (Lib.hid (Below.refl _ _).drew)
          · intro i o hi ho lb f' w' hl hS hd
            have hcase : i = 0 ∨ i = 1 ∨ i = 2 ∨ i = 3 ∨ i = 4 ∨ i = 5 ∨ i = 6 ∨ i = 7 ∨ i = 8 ∨ i = 9 ∨ i = 10 := by omega
            rcases hcase with rfl | rfl | rfl | rfl | rfl | rfl | rfl | rfl | rfl | rfl | rfl <;> (replace ho := Option.some.inj ho; subst ho)
            · refine OpStep.of rfl ?_
              unfold Oper.wp
              go_simp
              first | exact ⟨by first | (simp [upd]; done) | (simp [upd]; omega), hS⟩ | (simp [upd]; done) | (simp [upd]; omega)
            · have e0 : f' 0 = .int .i64 k := (hd ⟨0, .data⟩ (by simp) rfl).2
              refine OpStep.of rfl ?_
              unfold Oper.wp
              go_simp
              first | exact ⟨by first | (simp [upd, e0]; done) | (simp [upd, e0]; omega), hS⟩ | (simp [upd, e0]; done) | (simp [upd, e0]; omega)
            · have e1 : f' 1 = .bool false := (hd ⟨1, .data⟩ (by simp) rfl).2
              refine OpStep.of rfl ?_
              unfold Oper.wp
              go_simp
              first | exact ⟨by first | (simp [upd, e1]; done) | (simp [upd, e1]; omega), hS⟩ | (simp [upd, e1]; done) | (simp [upd, e1]; omega)
            · refine OpStep.not (by have e2 : f' 2 = .bool false := (hd ⟨2, .guard⟩ (by simp) rfl).2; simp [Region.wanted, yielded, e2]) ?_
              exact ⟨rfl, hS⟩
            · refine OpStep.not (by have e2 : f' 2 = .bool false := (hd ⟨2, .guard⟩ (by simp) rfl).2; simp [Region.wanted, yielded, e2]) ?_
              exact ⟨rfl, hS⟩
            · refine OpStep.not (by have e2 : f' 2 = .bool false := (hd ⟨2, .guard⟩ (by simp) rfl).2; simp [Region.wanted, yielded, e2]) ?_
              exact ⟨rfl, hS⟩
            · refine OpStep.not (by have e2 : f' 2 = .bool false := (hd ⟨2, .guard⟩ (by simp) rfl).2; simp [Region.wanted, yielded, e2]) ?_
              exact ⟨rfl, hS⟩
            · refine OpStep.not (by have e2 : f' 2 = .bool false := (hd ⟨2, .guard⟩ (by simp) rfl).2; simp [Region.wanted, yielded, e2]) ?_
              exact ⟨rfl, hS⟩
            · refine OpStep.not (by have e2 : f' 2 = .bool false := (hd ⟨2, .guard⟩ (by simp) rfl).2; simp [Region.wanted, yielded, e2]) ?_
              exact ⟨rfl, hS⟩
            · refine OpStep.not (by have e2 : f' 2 = .bool false := (hd ⟨2, .guard⟩ (by simp) rfl).2; simp [Region.wanted, yielded, e2]) ?_
              exact ⟨rfl, hS⟩
            · refine OpStep.not (by have e2 : f' 2 = .bool false := (hd ⟨2, .guard⟩ (by simp) rfl).2; simp [Region.wanted, yielded, e2]) ?_
              exact ⟨rfl, hS⟩
          · intro o ho lb f' w' hd hS
            have e2 : f' 2 = .bool false := (hd 2 (by omega)).2
            replace ho := Option.some.inj ho
            subst ho
            refine ⟨rfl, ?_⟩
            have e2 : f' 2 = .bool false := (hd 2 (by omega)).2
            unfold Oper.wp
            go_simp
            go_step
            go_meet
            exact ⟨rfl, hS.out⟩
        case rest =>
        obtain ⟨rfl, hbc⟩ := hcut
        obtain ⟨W3, rfl⟩ : ∃ W3 : World, W3 = wc := ⟨_, rfl⟩
        have HB3 : Hid (Below w.heap.size w W3) := Lib.hid (HB2.out.trans (hbc.mono HB2.out.size))
        clear hbc
        go_wp2_with fail
        go_roundw
        case rel => exact ⟨k + 1, by omega, by go_num, fun j hj => (by
          by_cases e : j = k
          · rw [e]; exact HCode.out
          · exact HFJ.out j (by omega)), HB3.out⟩
        case measure => simp [intOf]; omega
      · have dk : decide ((0 : Int) < (k : Int)) = true := by simp; omega
        have dkn : 0 < k := by omega
        obtain ⟨km, hkm⟩ : ∃ km : Nat, k - 1 = km := ⟨_, rfl⟩
        have hpre := HPRE.out (by omega)
        rw [hkm] at hpre
        have HPR := Lib.hid hpre
        have s5 : IntKind.i64.wrap ((k : Int) - 1) = (km : Int) := (IntWalk.i64_in _ (by omega)).trans (by omega)
        have skl : (km : Int) < (L.length : Int) := by omega
        have HCode : Hid (rpCode L k = if decide (0 ≤ cmpR y x) = true then 7 else 0) := Lib.hid (by rw [HCode.out, decide_eq_true (show 0 < k by omega), Bool.true_and])
        have gl2 : g < W2.heap.size := Nat.lt_of_lt_of_le hgB HBL2.out.size
        clear hpre hk0 hkm
        obtain ⟨cv, hcv⟩ : ∃ cv : Bool, decide (0 ≤ cmpR y x) = cv := ⟨_, rfl⟩
        rw [hcv] at HCode
        go_cut [50] from 39 to 49 (fun v50 wc => v50 = .bool cv ∧ Below W2.heap.size W2 wc)
        case first =>
          refine wp_region_exact 11 (fun f' => ⟨#[.slice (some ⟨g, off, none⟩) L.length cap, undef, u2, .int .i64 k, .pointer (some ⟨P, 0, none⟩), .int .i64 0, .slice (some ⟨g, off, none⟩) L.length cap, .int .i64 L.length, .bool false, .slice (some ⟨g, off, none⟩) L.length cap, .int .i64 L.length, .int .i64 k, .bool true, .int .i64 k, .pointer (some ⟨g, off + k * 14, none⟩), .agg (rpC x).toArray, .bool false, .pointer (some ⟨P, 0, none⟩), .string x.node, .bool true, .bool false, .bool false, .pointer (some ⟨P, 1, none⟩), .int .i64 x.hour, .bool false, .pointer (some ⟨P, 3, none⟩), .agg #[Value.int IntKind.i64 x.f.proto, Value.bool x.f.s6, Value.int IntKind.u64 x.f.sh, Value.int IntKind.u64 x.f.sl, Value.bool x.f.t6, Value.int IntKind.u64 x.f.th, Value.int IntKind.u64 x.f.tl, Value.int IntKind.i64 x.f.fp, Value.int IntKind.i64 x.f.tp], .int .i64 0, .int .i64 0, .bool false, u30, .pointer (some ⟨P, 12, none⟩), .int .i64 x.pk, .bool false, .bool false, .pointer (some ⟨P, 13, none⟩), .int .i64 x.by_, .bool false, .bool false, f' 0, f' 1, f' 2, f' 3, f' 4, f' 5, f' 6, f' 7, f' 8, f' 9, f' 10, u50, u51], []⟩) (fun i => match i with | 0 => .int .i64 k | 1 => .bool true | 2 => .bool true | 3 => .slice (some ⟨g, off, none⟩) L.length cap | 4 => .int .i64 k | 5 => .int .i64 km | 6 => .pointer (some ⟨g, off + km * 14, none⟩) | 7 => .agg (rpA y) | 8 => .agg (rpA x) | 9 => .int .i64 (cmpR y x) | 10 => .bool cv | _ => undef) (fun lb w' => Hid (Below W2.heap.size W2 w')) (fun i => match i with | 0 => u39 | 1 => u40 | 2 => u41 | 3 => u42 | 4 => u43 | 5 => u44 | 6 => u45 | 7 => u46 | 8 => u47 | 9 => u48 | 10 => u49 | _ => undef) 10 (show Tryz.prog.follows .mixedOrders = true from by kernel_rfl) (by kernel_rfl) ?_ ?_ (Lib.hid (Below.refl _ _).drew)
          · intro i o hi ho lb f' w' hl hS hd
            have hcase : i = 0 ∨ i = 1 ∨ i = 2 ∨ i = 3 ∨ i = 4 ∨ i = 5 ∨ i = 6 ∨ i = 7 ∨ i = 8 ∨ i = 9 ∨ i = 10 := by omega
            rcases hcase with rfl | rfl | rfl | rfl | rfl | rfl | rfl | rfl | rfl | rfl | rfl <;> (replace ho := Option.some.inj ho; subst ho)
            · refine OpStep.of rfl ?_
              unfold Oper.wp
              go_simp
              first | exact ⟨by first | (simp [upd]; done) | (simp [upd]; omega), hS⟩ | (simp [upd]; done) | (simp [upd]; omega)
            · have e0 : f' 0 = .int .i64 k := (hd ⟨0, .data⟩ (by simp) rfl).2
              refine OpStep.of rfl ?_
              unfold Oper.wp
              go_simp
              first | exact ⟨by first | (simp [upd, e0]; done) | (simp [upd, e0]; omega), hS⟩ | (simp [upd, e0]; done) | (simp [upd, e0]; omega)
            · have e1 : f' 1 = .bool true := (hd ⟨1, .data⟩ (by simp) rfl).2
              refine OpStep.of rfl ?_
              unfold Oper.wp
              go_simp
              first | exact ⟨by first | (simp [upd, e1]; done) | (simp [upd, e1]; omega), hS⟩ | (simp [upd, e1]; done) | (simp [upd, e1]; omega)
            · refine OpStep.of (by have e2 : f' 2 = .bool true := (hd ⟨2, .guard⟩ (by simp) rfl).2; simp [Region.wanted, yielded, e2]) ?_
              unfold Oper.wp
              go_simp
              first | exact ⟨by first | (simp [upd]; done) | (simp [upd]; omega), hS⟩ | (simp [upd]; done) | (simp [upd]; omega)
            · refine OpStep.of (by have e2 : f' 2 = .bool true := (hd ⟨2, .guard⟩ (by simp) rfl).2; simp [Region.wanted, yielded, e2]) ?_
              unfold Oper.wp
              go_simp
              first | exact ⟨by first | (simp [upd]; done) | (simp [upd]; omega), hS⟩ | (simp [upd]; done) | (simp [upd]; omega)
            · have e4 : f' 4 = .int .i64 k := (hd ⟨4, .data⟩ (by simp) rfl).2
              refine OpStep.of (by have e2 : f' 2 = .bool true := (hd ⟨2, .guard⟩ (by simp) rfl).2; simp [Region.wanted, yielded, e2]) ?_
              unfold Oper.wp
              go_simp
              first | exact ⟨by first | (simp [upd, e4]; done) | (simp [upd, e4]; omega), hS⟩ | (simp [upd, e4]; done) | (simp [upd, e4]; omega)
            · have e3 : f' 3 = .slice (some ⟨g, off, none⟩) L.length cap := (hd ⟨3, .data⟩ (by simp) rfl).2
              have e5 : f' 5 = .int .i64 km := (hd ⟨5, .data⟩ (by simp) rfl).2
              refine OpStep.of (by have e2 : f' 2 = .bool true := (hd ⟨2, .guard⟩ (by simp) rfl).2; simp [Region.wanted, yielded, e2]) ?_
              unfold Oper.wp
              go_simp
              first | exact ⟨by first | (simp [upd, e3, e5]; done) | (simp [upd, e3, e5]; omega), hS⟩ | (simp [upd, e3, e5]; done) | (simp [upd, e3, e5]; omega)
            · have e6 : f' 6 = .pointer (some ⟨g, off + km * 14, none⟩) := (hd ⟨6, .data⟩ (by simp) rfl).2
              refine OpStep.of (by have e2 : f' 2 = .bool true := (hd ⟨2, .guard⟩ (by simp) rfl).2; simp [Region.wanted, yielded, e2]) ?_
              refine load_stepR e6 (HPR.out.keep (fun p hp => (World.cell?_of_block (w := W2) (hS.out.block p.block (by rw [hp]; exact gl2))).trans (World.cell?_of_block (w := wr) (HBL2.out.block p.block (by rw [hp]; exact hgB))))) (by kernel_rfl) rfl (by kernel_rfl) ?_
              exact ⟨rfl, hS⟩
            · refine OpStep.of (by have e2 : f' 2 = .bool true := (hd ⟨2, .guard⟩ (by simp) rfl).2; simp [Region.wanted, yielded, e2]) ?_
              refine load_step rfl ((hS.out.block P (lt_of_block H2.out)).trans H2.out) (by kernel_rfl) (by kernel_rfl) ?_
              exact ⟨rfl, hS⟩
            · have e7 : f' 7 = .agg (rpA y) := (hd ⟨7, .data⟩ (by simp) rfl).2
              have e8 : f' 8 = .agg (rpA x) := (hd ⟨8, .data⟩ (by simp) rfl).2
              refine OpStep.of (by have e2 : f' 2 = .bool true := (hd ⟨2, .guard⟩ (by simp) rfl).2; simp [Region.wanted, yielded, e2]) ?_
              unfold Oper.wp
              go_simp
              refine (compareReports_any y x w').mono ?_
              rintro e w9 ⟨rfl, hb9⟩
              exact ⟨by simp [upd, e7, e8], Lib.hid (hS.out.trans (hb9.mono hS.out.size))⟩
            · have e9 : f' 9 = .int .i64 (cmpR y x) := (hd ⟨9, .data⟩ (by simp) rfl).2
              refine OpStep.of (by have e2 : f' 2 = .bool true := (hd ⟨2, .guard⟩ (by simp) rfl).2; simp [Region.wanted, yielded, e2]) ?_
              unfold Oper.wp
              go_simp
              first | exact ⟨by first | (simp [upd, e9]; done) | (simp [upd, e9]; omega), hS⟩ | (simp [upd, e9]; done) | (simp [upd, e9]; omega)
          · intro o ho lb f' w' hd hS
            have e2 : f' 2 = .bool true := (hd 2 (by omega)).2
            have e10 : f' 10 = .bool cv := (hd 10 (by omega)).2
            replace ho := Option.some.inj ho
            subst ho
            refine ⟨rfl, ?_⟩
            unfold Oper.wp
            go_simp
            go_step
            go_meet
            exact ⟨rfl, hS.out⟩
        case rest =>
        obtain ⟨rfl, hbc⟩ := hcut
        obtain ⟨W3, rfl⟩ : ∃ W3 : World, W3 = wc := ⟨_, rfl⟩
        have HB3 : Hid (Below w.heap.size w W3) := Lib.hid (HB2.out.trans (hbc.mono HB2.out.size))
        clear hbc
        cases cv
        · have HCode : Hid (rpCode L k = 0) := HCode
          go_wp2_with fail
          go_roundw
          case rel => exact ⟨k + 1, by omega, by go_num, fun j hj => (by
            by_cases e : j = k
            · rw [e]; exact HCode.out
            · exact HFJ.out j (by omega)), HB3.out⟩
          case measure => simp [intOf]; omega
        · have HF := Lib.hid (HBAD.out _ (HCode.out.trans (if_pos rfl)) (by decide))
          go_wp2_with fail
          go_ret
          exact ⟨by rw [HF.out]; rfl, HB3.out⟩
    · have hd : decide ((k : Int) < (L.length : Int)) = false := by simp; omega
      have HF : Hid (ckR L = 0) := Lib.hid (ckR_none (fun j hj => HFJ.out j (by omega)))
      go_wp2_with fail
      go_ret
      exact ⟨by rw [HF.out]; rfl, HB.out⟩
end Go.Proofs.YthjfnlbekbhmgaaGreatDoor
