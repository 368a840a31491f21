/- lanekeep2's ready(): kit.Lines, kit.Words at what it reads. lanekeep2's ready(): rule.CheckPolicy at what it reads. lanekeep2's ready(): rule.readGrant at what it reads. lanekeep2's ready(): rule.reader.line, rule.Read at what it reads. -/
import Derived.Test.YtajifionclpphaaGreatDoorRyA
import Derived.Deep.RegionHeld3
import Derived.Deep.RegionLaw
import Derived.Deep.Cut
import Derived.Deep.CutRange
import Derived.BigQuiet
import Derived.WalkSmall
import Derived.OwnWalk
import Derived.Deep.AppendLies
namespace Go.Proofs.YtajifionclpphaaGreatDoor
open Go.RowKit Go.Hw Go.Shelf

theorem below_alloc1 (w : World) (o : Obj) : Below w.heap.size w (w.alloc o) := (Below.refl _ _).alloc (Nat.le_refl _) _
/-- The library's variable holds some number. -/
def MxW (w : World) : Prop := ∃ m, w.cell? ⟨0, 0, none⟩ = some (.int .i64 m)
theorem MxW.lt {w : World} (h : MxW w) : 0 < w.heap.size := by
  obtain ⟨m, hm⟩ := h
  by_cases hlt : 0 < w.heap.size
  · exact hlt
  · have hn : w.heap[0]? = none := Array.getElem?_eq_none (by omega)
    simp [World.cell?, hn] at hm
theorem MxW.below {w w' : World} (h : MxW w) (hb : Below w.heap.size w w') : MxW w' :=
  let ⟨m, hm⟩ := h
  ⟨m, (hb.cell (p := ⟨0, 0, none⟩) h.lt).trans hm⟩
def txtA : ByteArray := ⟨#[97, 108, 108, 111, 119, 32, 42, 32, 45, 62, 32, 42, 10]⟩
def lineA : ByteArray := ⟨#[97, 108, 108, 111, 119, 32, 42, 32, 45, 62, 32, 42]⟩
def wAllow : ByteArray := ⟨#[97, 108, 108, 111, 119]⟩
def wStar : ByteArray := ⟨#[42]⟩
def wTo : ByteArray := ⟨#[45, 62]⟩
theorem split_lines : Lib.countB txtA ⟨#[10]⟩ = 1 ∧ Lib.splitB ⟨#[10]⟩ 0 1 txtA = [lineA, ⟨#[]⟩] := ⟨by kernel_rfl, by kernel_rfl⟩
theorem split_words : Lib.countB lineA ⟨#[32]⟩ = 3 ∧ Lib.splitB ⟨#[32]⟩ 0 3 lineA = [wAllow, wStar, wTo, wStar] := ⟨by kernel_rfl, by kernel_rfl⟩
theorem split_star : Lib.countB wStar ⟨#[44]⟩ = 0 ∧ Lib.splitB ⟨#[44]⟩ 0 0 wStar = [wStar] := ⟨by kernel_rfl, by kernel_rfl⟩
theorem cut_star : Lib.cut wStar.data.toList [59] = ([42], [], false) := by kernel_rfl
theorem contains_none : Lib.containsS ([wAllow, wStar, wTo, wStar].take 4) ⟨#[]⟩ = false := by kernel_rfl
set_option maxRecDepth 100000 in
set_option maxHeartbeats 1000000 in
theorem lines_one (w : World) (h : MxW w) : Calls Tryz.prog 89 #[.string txtA] w fun e w' => e = .returned (.tuple #[.slice (some ⟨w.heap.size, 0, none⟩) 1 2, .bool true]) ∧ w' = w.alloc (.cells #[.string lineA, .string ⟨#[]⟩] 9) := by
  obtain ⟨m, hm⟩ := h
  have hs := Tryz.strings_Split txtA ⟨#[10]⟩ m w (by decide) hm (by decide)
  rw [split_lines.1, split_lines.2] at hs
  have c0 := heap_alloc_new w (.cells #[.string lineA, .string ⟨#[]⟩] 9)
  have y1 := cell_of c0 1
  simp only [List.getElem?_toArray, List.getElem?_cons_zero, List.getElem?_cons_succ] at y1
  clear c0
  go_enter Tryz.func89, Tryz.ntmps89
  go_wp2_with fail
  refine hs.mono ?_
  rintro e w1 ⟨rfl, rfl⟩
  clear hs
  simp only [List.map_cons, List.map_nil]
  go_wp2_with fail
  go_ret2
  exact ⟨rfl, rfl⟩
set_option maxRecDepth 100000 in
set_option maxHeartbeats 1000000 in
theorem words_one (w : World) (h : MxW w) : Calls Tryz.prog 143 #[.string lineA] w fun e w' => e = .returned (.tuple #[.slice (some ⟨w.heap.size, 0, none⟩) 4 4, .bool true]) ∧ w' = w.alloc (.cells #[.string wAllow, .string wStar, .string wTo, .string wStar] 9) := by
  obtain ⟨m, hm⟩ := h
  have hs := Tryz.strings_Split lineA ⟨#[32]⟩ m w (by decide) hm (by decide)
  rw [split_words.1, split_words.2] at hs
  have c0 := heap_alloc_new w (.cells #[.string wAllow, .string wStar, .string wTo, .string wStar] 9)
  have hcell : ∀ j, j < 4 → (w.alloc (.cells #[.string wAllow, .string wStar, .string wTo, .string wStar] 9)).cell? ⟨w.heap.size, 0 + j, none⟩ = some (.string (([wAllow, wStar, wTo, wStar] : List ByteArray).getD j ByteArray.empty)) := by
    intro j hj
    have : j = 0 ∨ j = 1 ∨ j = 2 ∨ j = 3 := by omega
    rcases this with rfl | rfl | rfl | rfl <;> (simp only [World.cell?, c0]; rfl)
  have hk := Tryz.slices_Contains_string w.heap.size 0 4 4 [wAllow, wStar, wTo, wStar] ⟨#[]⟩ (w.alloc (.cells #[.string wAllow, .string wStar, .string wTo, .string wStar] 9)) (by simp) (by omega) (by simpa using hcell)
  rw [contains_none] at hk
  clear c0 hcell
  go_enter Tryz.func143, Tryz.ntmps143
  go_wp2_with fail
  refine hs.mono ?_
  rintro e w1 ⟨rfl, rfl⟩
  clear hs
  simp only [List.map_cons, List.map_nil]
  go_wp2_with fail
  refine hk.mono ?_
  rintro e w1 ⟨rfl, rfl⟩
  clear hk
  go_wp2_with fail
  go_ret2
  exact ⟨rfl, rfl⟩
/-! ### "*" -/
theorem sixC {W : World} {R : Nat} {a0 a1 a2 a3 a4 a5 : Value} {T : TypeId} (h : W.heap[R]? = some (.cells #[a0, a1, a2, a3, a4, a5] T (0, 0))) : W.cell? ⟨R, 0, none⟩ = some a0 ∧ W.cell? ⟨R, 1, none⟩ = some a1 ∧ W.cell? ⟨R, 2, none⟩ = some a2 ∧ W.cell? ⟨R, 3, none⟩ = some a3 ∧ W.cell? ⟨R, 4, none⟩ = some a4 ∧ W.cell? ⟨R, 5, none⟩ = some a5 := by
  refine ⟨?_, ?_, ?_, ?_, ?_, ?_⟩ <;> simp [World.cell?, h]
theorem eightC {W : World} {R : Nat} {a0 a1 a2 a3 a4 a5 a6 a7 : Value} {T : TypeId} (h : W.heap[R]? = some (.cells #[a0, a1, a2, a3, a4, a5, a6, a7] T (0, 0))) : W.cell? ⟨R, 0, none⟩ = some a0 ∧ W.cell? ⟨R, 1, none⟩ = some a1 ∧ W.cell? ⟨R, 2, none⟩ = some a2 ∧ W.cell? ⟨R, 3, none⟩ = some a3 ∧ W.cell? ⟨R, 4, none⟩ = some a4 ∧ W.cell? ⟨R, 5, none⟩ = some a5 ∧ W.cell? ⟨R, 6, none⟩ = some a6 ∧ W.cell? ⟨R, 7, none⟩ = some a7 := by
  refine ⟨?_, ?_, ?_, ?_, ?_, ?_, ?_, ?_⟩ <;> simp [World.cell?, h]
theorem eightF {W : World} {R : Nat} {cs : Array Value} {T : TypeId} (h : W.heap[R]? = some (.cells cs T (0, 0))) (j : Nat) : W.frozen? ⟨R, j, none⟩ = false := by simp [World.frozen?, h]
def whatBlk : Obj := .cells #[.int .i64 1, .string ⟨#[]⟩, .bool false, .int .u64 0, .int .u64 0, .int .i64 0] 265
set_option maxRecDepth 100000 in
set_option maxHeartbeats 1000000 in
theorem readWhat_star (w : World) : Calls Tryz.prog 193 #[.string ⟨#[42]⟩] w fun e w' => e = .returned (.tuple #[.agg #[.int .i64 1, .string ⟨#[]⟩, .bool false, .int .u64 0, .int .u64 0, .int .i64 0], .bool true]) ∧ Below w.heap.size w w' := by
  have hr := heap_alloc_new w whatBlk
  obtain ⟨y0, y1, y2, y3, y4, y5⟩ := sixC hr
  have HB := Lib.hid ((Below.refl w.heap.size w).alloc (Nat.le_refl _) whatBlk)
  unfold whatBlk at y0 y1 y2 y3 y4 y5 HB
  clear hr
  go_enter Tryz.func193, Tryz.ntmps193
  go_wp2_with fail
  refine bodyPost_ret (v := .tuple #[.agg #[.int .i64 1, .string ⟨#[]⟩, .bool false, .int .u64 0, .int .u64 0, .int .i64 0], .bool true]) (by simp [results, Tryz.results193, go_sem, y0, y1, y2, y3, y4, y5]) rfl ⟨rfl, HB.out⟩
def R9 (W2 : World) (v9 : Value) (wc : World) : Prop := ∃ b9, v9 = .pointer (some ⟨b9, 0, none⟩) ∧ (wc.heap[b9]? = some (.cells #[.int .i64 1, .string ⟨#[]⟩, .bool false, .int .u64 0, .int .u64 0, .int .i64 0, .int .i64 0, .int .i64 65535] 269 (0, 0)) ∧ W2.heap.size ≤ b9) ∧ Below W2.heap.size W2 wc
set_option maxRecDepth 100000 in
set_option maxHeartbeats 1000000 in
theorem readTarget_star (w : World) (h : MxW w) : Calls Tryz.prog 194 #[.string ⟨#[42]⟩] w fun e w' => e = .returned (.tuple #[.agg #[.int .i64 1, .string ⟨#[]⟩, .bool false, .int .u64 0, .int .u64 0, .int .i64 0, .int .i64 0, .int .i64 65535], .bool true]) ∧ Below w.heap.size w w' := by
  obtain ⟨m, hm⟩ := h.below (below_alloc1 w (.cells #[.int .i64 0, .string ⟨#[]⟩, .bool false, .int .u64 0, .int .u64 0, .int .i64 0, .int .i64 0, .int .i64 0] 269))
  have hc := Tryz.strings_Cut ⟨#[42]⟩ ⟨#[59]⟩ m _ (by decide) hm
  rw [show Lib.cut (⟨#[42]⟩ : ByteArray).data.toList (⟨#[59]⟩ : ByteArray).data.toList = ([42], [], false) from cut_star] at hc
  have hr := heap_alloc_new w (.cells #[.int .i64 0, .string ⟨#[]⟩, .bool false, .int .u64 0, .int .u64 0, .int .i64 0, .int .i64 0, .int .i64 0] 269)
  have HR := Lib.hid hr
  have HB := Lib.hid ((Below.refl w.heap.size w).alloc (Nat.le_refl _) (.cells #[.int .i64 0, .string ⟨#[]⟩, .bool false, .int .u64 0, .int .u64 0, .int .i64 0, .int .i64 0, .int .i64 0] 269))
  have hlt := lt_of_block hr
  clear hr hm
  go_enter Tryz.func194, Tryz.ntmps194
  go_wp2_with fail
  generalize World.alloc w _ = W0 at *
  refine hc.mono ?_
  rintro e w1 ⟨rfl, nd, rfl⟩
  have hr1 : (W0.drewN nd).heap[w.heap.size]? = some (.cells #[.int .i64 0, .string ⟨#[]⟩, .bool false, .int .u64 0, .int .u64 0, .int .i64 0, .int .i64 0, .int .i64 0] 269 (0, 0)) := HR.out
  have HR1 := Lib.hid hr1
  have HB1 : Hid (Below w.heap.size w (W0.drewN nd)) := Lib.hid ⟨HB.out.os, HB.out.tape, HB.out.output, HB.out.size, HB.out.block⟩
  have hlt1 : w.heap.size < (W0.drewN nd).heap.size := hlt
  generalize W0.drewN nd = W1 at *
  clear hc hr1 HR HB hlt
  go_wp2_with fail
  refine (readWhat_star W1).mono ?_
  rintro e W2 ⟨rfl, hb2⟩
  have HB2 := Lib.hid (HB1.out.trans (hb2.mono HB1.out.size))
  have HR2 := Lib.hid ((hb2.block _ hlt1).trans HR1.out)
  have hlt2 : w.heap.size < W2.heap.size := Nat.lt_of_lt_of_le hlt1 hb2.size
  clear hb2 HB1 HR1 hlt1
  have hq := heap_alloc_new W2 whatBlk
  have hlq : W2.heap.size < (W2.alloc whatBlk).heap.size := by simp
  have HBQ := Lib.hid (below_alloc1 W2 whatBlk)
  obtain ⟨y0, y1, y2, y3, y4, y5⟩ := sixC hq
  have HQ := Lib.hid hq
  unfold whatBlk at y0 y1 y2 y3 y4 y5 hlq
  clear hq
  go_wp2_with fail
  generalize hWQ : World.alloc W2 _ = WQ at y0 y1 y2 y3 y4 y5 hlq ⊢
  have HBW : Hid (Below W2.heap.size W2 WQ) := Lib.hid (by rw [← hWQ]; exact HBQ.out)
  clear hWQ HBQ HQ
  go_cut [9] from 26 (fun v9 wc => R9 W2 v9 wc)
  case first =>
    go_region_held3 (fun w' => w'.cell? ⟨W2.heap.size, 0, none⟩ = some (.int .i64 1) ∧ w'.cell? ⟨W2.heap.size, 1, none⟩ = some (.string ⟨#[]⟩) ∧ w'.cell? ⟨W2.heap.size, 2, none⟩ = some (.bool false) ∧ w'.cell? ⟨W2.heap.size, 3, none⟩ = some (.int .u64 0) ∧ w'.cell? ⟨W2.heap.size, 4, none⟩ = some (.int .u64 0) ∧ w'.cell? ⟨W2.heap.size, 5, none⟩ = some (.int .i64 0))
      ((repeat' apply And.intro) <;> (first | (go_simp; done) | with_reducible assumption))
      ((go_at_call 203; refine (allPorts_any _).mono ?_; rintro e w1 ⟨rfl, hb1⟩; have y0 : w1.cell? ⟨W2.heap.size, 0, none⟩ = some (.int .i64 1) := (hb1.cell (p := ⟨W2.heap.size, 0, none⟩) (by (try simp); omega)).trans (by go_simp); have y1 : w1.cell? ⟨W2.heap.size, 1, none⟩ = some (.string ⟨#[]⟩) := (hb1.cell (p := ⟨W2.heap.size, 1, none⟩) (by (try simp); omega)).trans (by go_simp); have y2 : w1.cell? ⟨W2.heap.size, 2, none⟩ = some (.bool false) := (hb1.cell (p := ⟨W2.heap.size, 2, none⟩) (by (try simp); omega)).trans (by go_simp); have y3 : w1.cell? ⟨W2.heap.size, 3, none⟩ = some (.int .u64 0) := (hb1.cell (p := ⟨W2.heap.size, 3, none⟩) (by (try simp); omega)).trans (by go_simp); have y4 : w1.cell? ⟨W2.heap.size, 4, none⟩ = some (.int .u64 0) := (hb1.cell (p := ⟨W2.heap.size, 4, none⟩) (by (try simp); omega)).trans (by go_simp); have y5 : w1.cell? ⟨W2.heap.size, 5, none⟩ = some (.int .i64 0) := (hb1.cell (p := ⟨W2.heap.size, 5, none⟩) (by (try simp); omega)).trans (by go_simp); have lq1 : W2.heap.size < w1.heap.size := (by have := hb1.size; (try simp at this); omega); (try have HZ : Hid (w1.heap[WQ.heap.size]? = some (.cells #[.int .i64 0, .string ⟨#[]⟩, .bool false, .int .u64 0, .int .u64 0, .int .i64 0, .int .i64 0, .int .i64 0] 269 (0, 0))) := Lib.hid ((hb1.block WQ.heap.size (by simp)).trans (heap_alloc_new WQ (.cells #[.int .i64 0, .string ⟨#[]⟩, .bool false, .int .u64 0, .int .u64 0, .int .i64 0, .int .i64 0, .int .i64 0] 269)))); (try have z0 := (eightC HZ.out).1); (try have z1 := (eightC HZ.out).2.1); (try have z2 := (eightC HZ.out).2.2.1); (try have z3 := (eightC HZ.out).2.2.2.1); (try have z4 := (eightC HZ.out).2.2.2.2.1); (try have z5 := (eightC HZ.out).2.2.2.2.2.1); (try have z6 := (eightC HZ.out).2.2.2.2.2.2.1); (try have z7 := (eightC HZ.out).2.2.2.2.2.2.2); (try have q0 := eightF HZ.out 0); (try have q1 := eightF HZ.out 1); (try have q2 := eightF HZ.out 2); (try have q3 := eightF HZ.out 3); (try have q4 := eightF HZ.out 4); (try have q5 := eightF HZ.out 5); (try have q6 := eightF HZ.out 6); (try have q7 := eightF HZ.out 7); (try have lz := lt_of_block HZ.out)))
    all_goals (go_wp2_with fail; go_meet)
    all_goals clear y0 y1 y2 y3 y4 y5
    all_goals have hs1 := hb1.size
    all_goals have hb0 : Below W2.heap.size W2 w1 := (by
      first
        | exact HBW.out.trans (hb1.mono HBW.out.size)
        | exact HBW.out.drew.trans (hb1.mono HBW.out.size)
        | exact (HBW.out.alloc HBW.out.size _).trans (hb1.mono (by have := HBW.out.size; simp; omega))
        | exact (HBW.out.drew.alloc HBW.out.size _).trans (hb1.mono (by have := HBW.out.size; simp; omega))
        | exact (HBW.out.alloc HBW.out.size _).drew.trans (hb1.mono (by have := HBW.out.size; simp; omega)))
    all_goals first
      | (have hr := ((((((((Re.refl HZ.out).set 0 (.int .i64 1)).set 1 (.string ⟨#[]⟩)).set 2 (.bool false)).set 3 (.int .u64 0)).set 4 (.int .u64 0)).set 5 (.int .i64 0)).set 6 (.int .i64 0)).set 7 (.int .i64 65535)
         generalize hW : World.setCell _ _ _ = W9
         rw [hW] at hr
         clear hW
         exact ⟨WQ.heap.size, rfl, ⟨by simpa using hr.blk, HBW.out.size⟩, hr.below hb0 HBW.out.size⟩)
      | (generalize hW : World.alloc _ _ = W9
         have hz := heap_alloc_new w1 (.cells #[.int .i64 1, .string ⟨#[]⟩, .bool false, .int .u64 0, .int .u64 0, .int .i64 0, .int .i64 0, .int .i64 65535] 269)
         have hb9 := hb0.alloc (show W2.heap.size ≤ w1.heap.size by have := HBW.out.size; (try simp at hs1); omega) (.cells #[.int .i64 1, .string ⟨#[]⟩, .bool false, .int .u64 0, .int .u64 0, .int .i64 0, .int .i64 0, .int .i64 65535] 269)
         rw [hW] at hz hb9
         exact ⟨w1.heap.size, rfl, ⟨hz, by have := HBW.out.size; (try simp at hs1); omega⟩, hb9⟩)
  case rest =>
    obtain ⟨b9, rfl, ⟨h9, hge⟩, hbc⟩ := hcut
    obtain ⟨t0, t1, t2, t3, t4, t5, t6, t7⟩ := eightC h9
    have HB9 := Lib.hid (HB2.out.trans (hbc.mono HB2.out.size))
    have hr2 := (hbc.block _ hlt2).trans HR2.out
    have HR9 := Lib.hid hr2
    have l9 := lt_of_block h9
    obtain ⟨r0, r1, r2, r3, r4, r5, r6, r7⟩ := eightC hr2
    have f0 := eightF hr2 0
    have f1 := eightF hr2 1
    have f2 := eightF hr2 2
    have f3 := eightF hr2 3
    have f4 := eightF hr2 4
    have f5 := eightF hr2 5
    have f6 := eightF hr2 6
    have f7 := eightF hr2 7
    clear h9 hbc HB2 HR2 HBW hr2
    go_wp2_with fail
    clear r0 r1 r2 r3 r4 r5 r6 r7 t0 t1 t2 t3 t4 t5 t6 t7 f0 f1 f2 f3 f4 f5 f6 f7
    have hr := ((((((((Re.refl HR9.out).set 0 (.int .i64 1)).set 1 (.string ⟨#[]⟩)).set 2 (.bool false)).set 3 (.int .u64 0)).set 4 (.int .u64 0)).set 5 (.int .i64 0)).set 6 (.int .i64 0)).set 7 (.int .i64 65535)
    have hbr := hr.below HB9.out (Nat.le_refl _)
    generalize hW : World.setCell _ _ _ = W9
    rw [hW] at hr hbr
    clear hW
    have hbk : W9.heap[w.heap.size]? = some (.cells #[.int .i64 1, .string ⟨#[]⟩, .bool false, .int .u64 0, .int .u64 0, .int .i64 0, .int .i64 0, .int .i64 65535] 269 (0, 0)) := by simpa using hr.blk
    obtain ⟨y0, y1, y2, y3, y4, y5, y6, y7⟩ := eightC hbk
    refine bodyPost_ret (v := .tuple #[.agg #[.int .i64 1, .string ⟨#[]⟩, .bool false, .int .u64 0, .int .u64 0, .int .i64 0, .int .i64 0, .int .i64 65535], .bool true]) (by simp [results, Tryz.results194, go_sem, y0, y1, y2, y3, y4, y5, y6, y7]) rfl ⟨rfl, hbr⟩
end Go.Proofs.YtajifionclpphaaGreatDoor

namespace Go.Proofs.YtajifionclpphaaGreatDoor
open Go.RowKit Go.Hw Go.Shelf

theorem run_eq_pf (d : Nat) (a b : Bool) (x y u v m n : Int) (w : World) : (Op.equalIn (d + 3) 48 (.agg #[.bool a, .int .u64 x, .int .u64 u, .int .i64 m]) (.agg #[.bool b, .int .u64 y, .int .u64 v, .int .i64 n])).run Tryz.prog w = .ok ((a == b && (x == y && u == v)) && m == n) w := by
  have u2 := Tryz.underlying3
  have hA : Tryz.prog.underlying 48 = some (.struct (Tryz.prog.fieldsOf 48)) := by kernel_rfl
  have pA : Tryz.prog.stoodInHeld 48 = false := by kernel_rfl
  rw [run_equalIn_agg w (d + 2) 48 _ _ hA pA]
  simp only [Program.fieldsOf, Tryz.underlying48]
  go_simp
  by_cases h1 : a = b <;> by_cases h2 : x = y <;> by_cases h3 : u = v <;> by_cases h4 : m = n <;> simp [h1, h2, h3, h4]
theorem guard_pf : Tryz.prog.eqGuardType Tryz.prog.depth 48 = false := by kernel_rfl
theorem run_eq_ports (d : Nat) (x y u v : Int) (w : World) : (Op.equalIn (d + 2) 241 (.agg #[.int .i64 x, .int .i64 u]) (.agg #[.int .i64 y, .int .i64 v])).run Tryz.prog w = .ok (x == y && u == v) w := by
  have u2 := Tryz.underlying3
  have hA : Tryz.prog.underlying 241 = some (.struct (Tryz.prog.fieldsOf 241)) := by kernel_rfl
  have pA : Tryz.prog.stoodInHeld 241 = false := by kernel_rfl
  rw [run_equalIn_agg w (d + 1) 241 _ _ hA pA]
  simp only [Program.fieldsOf, Tryz.underlying241]
  go_simp
  by_cases h1 : x = y <;> by_cases h2 : u = v <;> simp [h1, h2]
theorem guard_ports : Tryz.prog.eqGuardType Tryz.prog.depth 241 = false := by kernel_rfl
theorem fourC {W : World} {R : Nat} {a0 a1 a2 a3 : Value} {T : TypeId} (h : W.heap[R]? = some (.cells #[a0, a1, a2, a3] T (0, 0))) : W.cell? ⟨R, 0, none⟩ = some a0 ∧ W.cell? ⟨R, 1, none⟩ = some a1 ∧ W.cell? ⟨R, 2, none⟩ = some a2 ∧ W.cell? ⟨R, 3, none⟩ = some a3 := by
  refine ⟨?_, ?_, ?_, ?_⟩ <;> simp [World.cell?, h]
theorem blk_two {w : World} (o o' : Obj) {c : Array Value} {t : TypeId} (ho' : o' = .cells c t) : ((w.alloc o).alloc o').heap[w.heap.size + 1]? = some (.cells c t (0, 0)) := by
  subst ho'
  have := heap_alloc_new (w.alloc o) (.cells c t)
  have h2 : (w.alloc o).heap.size = w.heap.size + 1 := by simp
  rw [h2] at this
  exact this

set_option maxRecDepth 100000 in
set_option maxHeartbeats 1000000 in
theorem whatFault_one (p0 p1 p2 p3 : Value) (w : World) :
    Calls Tryz.prog 202 #[.agg #[p0, p1, p2, p3], .agg #[.int .i64 1, .string ⟨#[]⟩, .bool false, .int .u64 0, .int .u64 0, .int .i64 0]] w fun e w' => e = .returned (.int .i64 0) ∧ Below w.heap.size w w' := by
  have hb := blk_two (w := w) (.cells #[p0, p1, p2, p3] 92) whatBlk rfl
  obtain ⟨y0, y1, y2, y3, y4, y5⟩ := sixC hb
  have HB := Lib.hid ((below_alloc1 w (.cells #[p0, p1, p2, p3] 92)).alloc (by simp) whatBlk)
  unfold whatBlk at y0 y1 y2 y3 y4 y5 HB
  have hq := fun W => (run_eq_pf 9997 false false 0 0 0 0 0 0 W).trans (show _ = Result.ok true W from rfl)
  have hgd := guard_pf
  clear hb
  go_enter Tryz.func202, Tryz.ntmps202
  go_wp2_with fail
  refine (outside_any _ _ _ _).mono ?_
  rintro e w1 ⟨rfl, rfl⟩
  go_wp2_with fail
  refine (outside_any _ _ _ _).mono ?_
  rintro e w1 ⟨rfl, rfl⟩
  go_wp2_with fail
  go_ret
  exact ⟨rfl, HB.out⟩
set_option maxRecDepth 100000 in
theorem rising_nil (w : World) (c : Nat) : Calls Tryz.prog 157 #[.slice none 0 c] w fun e w' => e = .returned (.int .i64 0) ∧ w = w' := by
  go_enter Tryz.func157, Tryz.ntmps157
  go_wp2_with fail
  refine wp_loop_rounds 1 ?_
  rw [rounds_succ]
  go_wp2_with fail
  go_ret
  exact ⟨rfl, rfl⟩
set_option maxRecDepth 100000 in
theorem hostsFault_nil (w : World) : Calls Tryz.prog 149 #[.slice none 0 0] w fun e w' => e = .returned (.int .i64 0) ∧ w = w' := by
  go_enter Tryz.func149, Tryz.ntmps149
  go_wp2_with fail
  refine wp_loop_rounds 1 ?_
  rw [rounds_succ]
  go_wp2_with fail
  go_ret
  exact ⟨rfl, rfl⟩
set_option maxRecDepth 100000 in
set_option maxHeartbeats 1000000 in
theorem groupsFault_nil (p1 p2 p3 : Value) (w : World) : Calls Tryz.prog 148 #[.agg #[.slice none 0 0, p1, p2, p3]] w fun e w' => e = .returned (.int .i64 0) ∧ Below w.heap.size w w' := by
  have hb := heap_alloc_new w (.cells #[.slice none 0 0, p1, p2, p3] 92)
  obtain ⟨y0, y1, y2, y3⟩ := fourC hb
  have HB := Lib.hid (below_alloc1 w (.cells #[.slice none 0 0, p1, p2, p3] 92))
  clear hb
  go_enter Tryz.func148, Tryz.ntmps148
  go_wp2_with fail
  refine wp_loop_rounds 1 ?_
  rw [rounds_succ]
  go_wp2_with fail
  refine wp_loop_rounds 1 ?_
  rw [rounds_succ]
  go_wp2_with fail
  refine wp_loop_rounds 1 ?_
  rw [rounds_succ]
  go_wp2_with fail
  go_ret
  exact ⟨rfl, HB.out⟩

/-- What lies in a block. -/
def CA (w : World) (b : Nat) (vs : List Value) : Prop := b < w.heap.size ∧ ∀ j u, vs[j]? = some u → w.cell? ⟨b, j, none⟩ = some u
theorem CA.below {w w' : World} {b : Nat} {vs : List Value} (h : CA w b vs) (hb : Below w.heap.size w w') : CA w' b vs := ⟨Nat.lt_of_lt_of_le h.1 hb.size, fun j u hu => (hb.cell (p := ⟨b, j, none⟩) h.1).trans (h.2 j u hu)⟩
theorem CA.made (w : World) (vs : List Value) (T : TypeId) : CA (w.alloc (.cells vs.toArray T)) w.heap.size vs := ⟨by simp, fun j u hu => by simp only [World.cell?, heap_alloc_new]; simpa using hu⟩
theorem CA.alloc {w : World} {b : Nat} {vs : List Value} (h : CA w b vs) (o : Obj) : CA (w.alloc o) b vs := h.below (below_alloc1 w o)
def starV : List Value := [.int .i64 1, .string ⟨#[]⟩, .bool false, .int .u64 0, .int .u64 0, .int .i64 0]
def targV : List Value := [.int .i64 1, .string ⟨#[]⟩, .bool false, .int .u64 0, .int .u64 0, .int .i64 0, .int .i64 0, .int .i64 65535]
theorem CA.c4 {w : World} {b : Nat} {a0 a1 a2 a3 : Value} (h : CA w b [a0, a1, a2, a3]) : w.cell? ⟨b, 0, none⟩ = some a0 ∧ w.cell? ⟨b, 1, none⟩ = some a1 ∧ w.cell? ⟨b, 2, none⟩ = some a2 ∧ w.cell? ⟨b, 3, none⟩ = some a3 := ⟨h.2 0 _ rfl, h.2 1 _ rfl, h.2 2 _ rfl, h.2 3 _ rfl⟩
theorem CA.c6 {w : World} {b : Nat} (h : CA w b starV) : w.cell? ⟨b, 0, none⟩ = some (.int .i64 1) ∧ w.cell? ⟨b, 1, none⟩ = some (.string ⟨#[]⟩) ∧ w.cell? ⟨b, 2, none⟩ = some (.bool false) ∧ w.cell? ⟨b, 3, none⟩ = some (.int .u64 0) ∧ w.cell? ⟨b, 4, none⟩ = some (.int .u64 0) ∧ w.cell? ⟨b, 5, none⟩ = some (.int .i64 0) := ⟨h.2 0 _ rfl, h.2 1 _ rfl, h.2 2 _ rfl, h.2 3 _ rfl, h.2 4 _ rfl, h.2 5 _ rfl⟩
theorem CA.c8 {w : World} {b : Nat} (h : CA w b targV) : w.cell? ⟨b, 0, none⟩ = some (.int .i64 1) ∧ w.cell? ⟨b, 1, none⟩ = some (.string ⟨#[]⟩) ∧ w.cell? ⟨b, 2, none⟩ = some (.bool false) ∧ w.cell? ⟨b, 3, none⟩ = some (.int .u64 0) ∧ w.cell? ⟨b, 4, none⟩ = some (.int .u64 0) ∧ w.cell? ⟨b, 5, none⟩ = some (.int .i64 0) ∧ w.cell? ⟨b, 6, none⟩ = some (.int .i64 0) ∧ w.cell? ⟨b, 7, none⟩ = some (.int .i64 65535) := ⟨h.2 0 _ rfl, h.2 1 _ rfl, h.2 2 _ rfl, h.2 3 _ rfl, h.2 4 _ rfl, h.2 5 _ rfl, h.2 6 _ rfl, h.2 7 _ rfl⟩
set_option maxRecDepth 100000 in
set_option maxHeartbeats 2000000 in
theorem grantFault_one (p0 p1 p2 p3 : Value) (sb cs db cd : Nat) (w : World) (hs : CA w sb starV) (hd : CA w db targV) :
    Calls Tryz.prog 150 #[.agg #[p0, p1, p2, p3], .agg #[.slice (some ⟨sb, 0, none⟩) 1 cs, .slice (some ⟨db, 0, none⟩) 1 cd, .int .i64 0, .slice none 0 0]] w fun e w' => e = .returned (.int .i64 0) ∧ Below w.heap.size w w' := by
  have hp := (CA.made w [p0, p1, p2, p3] 92).alloc (.cells #[.slice (some ⟨sb, 0, none⟩) 1 cs, .slice (some ⟨db, 0, none⟩) 1 cd, .int .i64 0, .slice none 0 0] 208)
  have hg := CA.made (w.alloc (.cells #[p0, p1, p2, p3] 92)) [.slice (some ⟨sb, 0, none⟩) 1 cs, .slice (some ⟨db, 0, none⟩) 1 cd, .int .i64 0, .slice none 0 0] 208
  have h2 : (w.alloc (.cells #[p0, p1, p2, p3] 92)).heap.size = w.heap.size + 1 := by simp
  rw [h2] at hg
  have hs0 := (hs.alloc (.cells #[p0, p1, p2, p3] 92)).alloc (.cells #[.slice (some ⟨sb, 0, none⟩) 1 cs, .slice (some ⟨db, 0, none⟩) 1 cd, .int .i64 0, .slice none 0 0] 208)
  have hd0 := (hd.alloc (.cells #[p0, p1, p2, p3] 92)).alloc (.cells #[.slice (some ⟨sb, 0, none⟩) 1 cs, .slice (some ⟨db, 0, none⟩) 1 cd, .int .i64 0, .slice none 0 0] 208)
  have HP := Lib.hid hp
  have HG := Lib.hid hg
  have HSV := Lib.hid hs0
  have HDV := Lib.hid hd0
  have HB := Lib.hid ((below_alloc1 w (.cells #[p0, p1, p2, p3] 92)).alloc (by simp) (.cells #[.slice (some ⟨sb, 0, none⟩) 1 cs, .slice (some ⟨db, 0, none⟩) 1 cd, .int .i64 0, .slice none 0 0] 208))
  obtain ⟨g0, g1, g2, g3⟩ := hg.c4
  obtain ⟨q0, q1, q2, q3⟩ := hp.c4
  obtain ⟨s0, s1, s2, s3, s4, s5⟩ := hs0.c6
  clear hp hg hs0 hd0 h2 hs hd
  go_enter Tryz.func150, Tryz.ntmps150
  go_wp2_with fail
  generalize World.alloc (World.alloc w _) _ = W0 at *
  have lp := HP.out.1
  have lg := HG.out.1
  have ls := HSV.out.1
  have ld := HDV.out.1
  refine wp_loop_rounds 2 ?_
  rw [rounds_succ]
  go_wp2_with fail
  refine (whatFault_one p0 p1 p2 p3 _).mono ?_
  rintro e W1 ⟨rfl, hb1⟩
  have HP := Lib.hid ((HP.out.alloc _).below hb1)
  have HG := Lib.hid ((HG.out.alloc _).below hb1)
  have HDV := Lib.hid ((HDV.out.alloc _).below hb1)
  have h6 := (CA.made W0 starV 265).below hb1
  have HB := Lib.hid (((HB.out).alloc HB.out.size _).trans (hb1.mono (by have := HB.out.size; simp; omega)))
  obtain ⟨t0, -⟩ := h6.c6
  obtain ⟨g0, g1, g2, g3⟩ := HG.out.c4
  obtain ⟨q0, q1, q2, q3⟩ := HP.out.c4
  obtain ⟨s0, s1, s2, s3, s4, s5, s6, s7⟩ := HDV.out.c8
  have lp := HP.out.1
  have lg := HG.out.1
  have ld := HDV.out.1
  clear hb1 h6 HSV
  go_wp2_with fail
  clear t0
  rw [rounds_succ]
  go_wp2_with fail
  refine wp_loop_rounds 2 ?_
  rw [rounds_succ]
  go_wp2_with fail
  refine (whatFault_one p0 p1 p2 p3 _).mono ?_
  rintro e W2 ⟨rfl, hb2⟩
  have HP := Lib.hid ((HP.out.alloc _).below hb2)
  have HG := Lib.hid ((HG.out.alloc _).below hb2)
  have h10 := (CA.made W1 targV 269).below hb2
  have HT := Lib.hid h10
  have HB := Lib.hid (((HB.out).alloc HB.out.size _).trans (hb2.mono (by have := HB.out.size; simp; omega)))
  obtain ⟨-, -, -, -, -, -, t6, t7⟩ := h10.c8
  obtain ⟨g0, g1, g2, g3⟩ := HG.out.c4
  clear hb2 h10 HDV HP s0 s1 s2 s3 s4 s5 s6 s7 q0 q1 q2 q3
  go_wp2_with fail
  refine (outside_any _ _ _ _).mono ?_
  rintro e w9 ⟨rfl, rfl⟩
  go_wp2_with fail
  have hq := fun W => (run_eq_ports 9998 0 0 65535 65535 W).trans (show _ = Result.ok true W from rfl)
  have hgd := guard_ports
  have lt10 := HT.out.1
  go_region_held3 (fun w' => w'.cell? ⟨W1.heap.size, 6, none⟩ = some (.int .i64 0) ∧ w'.cell? ⟨W1.heap.size, 7, none⟩ = some (.int .i64 65535))
    ((repeat' apply And.intro) <;> (first | (go_simp; done) | with_reducible assumption))
    ((go_at_call 203; refine (allPorts_any _).mono ?_; rintro e W3 ⟨rfl, hb3⟩; have t6 : W3.cell? ⟨W1.heap.size, 6, none⟩ = some (.int .i64 0) := (hb3.cell (p := ⟨W1.heap.size, 6, none⟩) (by (try simp); omega)).trans (by go_simp); have t7 : W3.cell? ⟨W1.heap.size, 7, none⟩ = some (.int .i64 65535) := (hb3.cell (p := ⟨W1.heap.size, 7, none⟩) (by (try simp); omega)).trans (by go_simp)))
  have hb30 : Below W2.heap.size W2 W3 := by first | exact hb3 | exact ⟨hb3.os, hb3.tape, hb3.output, hb3.size, hb3.block⟩
  have HG := Lib.hid (HG.out.below hb30)
  have HB := Lib.hid (HB.out.trans (hb30.mono HB.out.size))
  obtain ⟨g0, g1, g2, g3⟩ := HG.out.c4
  clear hb3 hb30 t6 t7
  go_wp2_with fail
  rw [rounds_succ]
  go_wp2_with fail
  refine (outside_any _ _ _ _).mono ?_
  rintro e w9 ⟨rfl, rfl⟩
  go_wp2_with fail
  refine (rising_nil _ _).mono ?_
  rintro e w9 ⟨rfl, rfl⟩
  go_wp2_with fail
  go_ret
  exact ⟨rfl, HB.out⟩

/-- The policy that is read. -/
structure PolAt (w : World) (gb cg sb cs db cd : Nat) : Prop where
  g : CA w gb [.slice (some ⟨sb, 0, none⟩) 1 cs, .slice (some ⟨db, 0, none⟩) 1 cd, .int .i64 0, .slice none 0 0]
  s : CA w sb starV
  d : CA w db targV
theorem PolAt.below {w w' : World} {gb cg sb cs db cd : Nat} (h : PolAt w gb cg sb cs db cd) (hb : Below w.heap.size w w') : PolAt w' gb cg sb cs db cd := ⟨h.g.below hb, h.s.below hb, h.d.below hb⟩
set_option maxRecDepth 100000 in
set_option maxHeartbeats 2000000 in
theorem checkPolicy_one (gb cg sb cs db cd : Nat) (w : World) (h : PolAt w gb cg sb cs db cd) :
    Calls Tryz.prog 91 #[.agg #[.slice none 0 0, .slice none 0 0, .slice (some ⟨gb, 0, none⟩) 1 cg, .slice none 0 0]] w fun e w' => e = .returned (.int .i64 0) ∧ Below w.heap.size w w' := by
  have hp := CA.made w [.slice none 0 0, .slice none 0 0, .slice (some ⟨gb, 0, none⟩) 1 cg, .slice none 0 0] 92
  have HH := Lib.hid (h.below (below_alloc1 w (.cells #[.slice none 0 0, .slice none 0 0, .slice (some ⟨gb, 0, none⟩) 1 cg, .slice none 0 0] 92)))
  have HB := Lib.hid (below_alloc1 w (.cells #[.slice none 0 0, .slice none 0 0, .slice (some ⟨gb, 0, none⟩) 1 cg, .slice none 0 0] 92))
  have HP := Lib.hid hp
  obtain ⟨q0, q1, q2, q3⟩ := hp.c4
  clear hp h
  go_enter Tryz.func91, Tryz.ntmps91
  go_wp2_with fail
  generalize World.alloc w _ = W0 at *
  refine (groupsFault_nil _ _ _ W0).mono ?_
  rintro e W1 ⟨rfl, hb1⟩
  have HP := Lib.hid (HP.out.below hb1)
  have HH := Lib.hid (HH.out.below hb1)
  have HB := Lib.hid (HB.out.trans (hb1.mono HB.out.size))
  obtain ⟨q0, q1, q2, q3⟩ := HP.out.c4
  obtain ⟨g0, g1, g2, g3⟩ := HH.out.g.c4
  have lp := HP.out.1
  clear hb1
  go_wp2_with fail
  refine (hostsFault_nil _).mono ?_
  rintro e w9 ⟨rfl, rfl⟩
  go_wp2_with fail
  refine wp_loop_rounds 2 ?_
  rw [rounds_succ]
  go_wp2_with fail
  have hh := HH.out.below (below_alloc1 W1 (.cells #[.slice (some ⟨sb, 0, none⟩) 1 cs, .slice (some ⟨db, 0, none⟩) 1 cd, .int .i64 0, .slice none 0 0] 208))
  refine (grantFault_one _ _ _ _ sb cs db cd _ hh.s hh.d).mono ?_
  rintro e W2 ⟨rfl, hb2⟩
  have HP := Lib.hid ((HP.out.alloc _).below hb2)
  have HB := Lib.hid (((HB.out).alloc HB.out.size _).trans (hb2.mono (by have := HB.out.size; simp; omega)))
  obtain ⟨q0, q1, q2, q3⟩ := HP.out.c4
  clear hb2 hh g0 g1 g2 g3
  go_wp2_with fail
  rw [rounds_succ]
  go_wp2_with fail
  refine wp_loop_rounds 1 ?_
  rw [rounds_succ]
  go_wp2_with fail
  go_ret
  exact ⟨rfl, HB.out⟩
end Go.Proofs.YtajifionclpphaaGreatDoor

namespace Go.Proofs.YtajifionclpphaaGreatDoor
open Go.RowKit Go.Hw Go.Shelf

theorem Tryz.infoWhat : (Tryz.prog.info? 265).map (fun i => (i.zero, i.size, i.bytes)) = some (some (.agg #[.int .i64 0, .string ⟨#[]⟩, .bool false, .int .u64 0, .int .u64 0, .int .i64 0]), 6, 56) := by kernel_rfl
theorem Tryz.infoTarget : (Tryz.prog.info? 269).map (fun i => (i.zero, i.size, i.bytes)) = some (some (.agg #[.int .i64 0, .string ⟨#[]⟩, .bool false, .int .u64 0, .int .u64 0, .int .i64 0, .int .i64 0, .int .i64 0]), 8, 72) := by kernel_rfl
theorem Tryz.infoGrant : (Tryz.prog.info? 208).map (fun i => (i.zero, i.size, i.bytes)) = some (some (.agg #[.slice none 0 0, .slice none 0 0, .int .i64 0, .slice none 0 0]), 4, 80) := by kernel_rfl
def wordsV : List Value := [.string ⟨#[97, 108, 108, 111, 119]⟩, .string ⟨#[42]⟩, .string ⟨#[45, 62]⟩, .string ⟨#[42]⟩]
theorem own_ca {w : World} {base : Nat} {T : TypeId} {size g cap n : Nat} {vs : List Value} (h : w.ownsRow base T size (.slice (some ⟨g, 0, none⟩) n cap) n vs) : CA w g vs := by
  refine ⟨(h.lt g rfl).2, fun j u hu => ?_⟩
  have := h.cells (g := g) rfl j u hu
  have hadd : (⟨g, 0, none⟩ : Addr).add j = ⟨g, j, none⟩ := by unfold Addr.add; split <;> simp_all
  rwa [hadd] at this
/-- A row that has grown from nothing. -/
theorem own_one {w : World} {base : Nat} {T : TypeId} {size n : Nat} {v : Value} {vs : List Value} (h : w.ownsRow base T size v n vs) (hn : 0 < n) : ∃ g cap, v = .slice (some ⟨g, 0, none⟩) n cap ∧ CA w g vs ∧ base ≤ g := by
  rcases h.2 with ⟨_, h2⟩ | ⟨g, cap, cur, h1, _⟩
  · omega
  · subst h1
    exact ⟨g, cap, rfl, own_ca h, (h.lt g rfl).1⟩
theorem CA.grown {w w' : World} {b : Nat} {vs : List Value} {row : Option Nat} (h : CA w b vs) (hg : w.grownBy w' row) (hne : some b ≠ row) : CA w' b vs := ⟨Nat.lt_of_lt_of_le h.1 hg.size, fun j u hu => (World.cell?_of_block (hg.block b h.1 hne)).trans (h.2 j u hu)⟩
theorem CA.set {w : World} {b g : Nat} {vs : List Value} (h : CA w b vs) (hne : b ≠ g) (j : Nat) (u : Value) : CA (w.setCell ⟨g, j, none⟩ u) b vs := ⟨by simpa using h.1, fun i x hx => (World.cell?_of_block (Below.heap_setCell w _ _ b hne)).trans (h.2 i x hx)⟩

theorem MxW.grownN {w w' : World} (h : MxW w) (hg : w.grownBy w' none) : MxW w' := h.below ((Below.refl _ _).grown hg (Nat.le_refl _) (fun j e => by cases e))
theorem MxW.set {w : World} {g : Nat} (h : MxW w) (hne : 0 ≠ g) (j : Nat) (u : Value) : MxW (w.setCell ⟨g, j, none⟩ u) := let ⟨m, hm⟩ := h; ⟨m, (World.cell?_of_block (Below.heap_setCell w _ _ _ hne)).trans hm⟩
theorem below_put {w0 w : World} {B g : Nat} (h : Below B w0 w) (hB : B ≤ w.heap.size) (hg : B ≤ g) (j : Nat) (u : Value) : Below B w0 (w.setCell ⟨g, j, none⟩ u) :=
  h.grown (row := some g) ⟨rfl, rfl, rfl, by simp, fun i _ hi => Below.heap_setCell w _ _ i (fun e => hi (by rw [e]))⟩ hB (fun j e => by injection e with e; omega)
set_option maxRecDepth 100000 in
set_option maxHeartbeats 4000000 in
theorem readGrant_one (B : Nat) (w : World) (hw : CA w B wordsV) (hm : MxW w) :
    Calls Tryz.prog 146 #[.slice (some ⟨B, 1, none⟩) 3 3] w fun e w' => ∃ sb cs db cd, e = .returned (.tuple #[.agg #[.slice (some ⟨sb, 0, none⟩) 1 cs, .slice (some ⟨db, 0, none⟩) 1 cd, .int .i64 0, .slice none 0 0], .bool true]) ∧ CA w' sb starV ∧ CA w' db targV ∧ Below w.heap.size w w' ∧ w.heap.size < sb ∧ w.heap.size < db := by
  have hlB := hw.1
  have hlM := hm.lt
  obtain ⟨i0, hi, hz0, hz1, hz2⟩ := info_parts Tryz.infoWhat
  obtain ⟨k0, hki, kz0, kz1, kz2⟩ := info_parts Tryz.infoTarget
  have HZ : Obj := .cells #[.slice none 0 0, .slice none 0 0, .int .i64 0, .slice none 0 0] 208
  have h2 := blk_two (w := w) (.cells #[.slice none 0 0, .slice none 0 0, .int .i64 0, .slice none 0 0] 208) (.cells #[.slice none 0 0, .slice none 0 0, .int .i64 0, .slice none 0 0] 208) rfl
  have h1 := (heap_alloc_old (w.alloc (.cells #[.slice none 0 0, .slice none 0 0, .int .i64 0, .slice none 0 0] 208)) (.cells #[.slice none 0 0, .slice none 0 0, .int .i64 0, .slice none 0 0] 208) (show w.heap.size < _ by simp)).trans (heap_alloc_new w (.cells #[.slice none 0 0, .slice none 0 0, .int .i64 0, .slice none 0 0] 208))
  have hb := (below_alloc1 w (.cells #[.slice none 0 0, .slice none 0 0, .int .i64 0, .slice none 0 0] 208)).alloc (by simp) (.cells #[.slice none 0 0, .slice none 0 0, .int .i64 0, .slice none 0 0] 208)
  have HM := Lib.hid (hm.below hb)
  have HW := Lib.hid (hw.below hb)
  have HB := Lib.hid hb
  have H1 := Lib.hid h1
  have H2 := Lib.hid h2
  have e1 : (⟨#[45, 62]⟩ : ByteArray).toList = [45, 62] := by kernel_rfl
  obtain ⟨c0, c1, c2, c3⟩ := CA.c4 HW.out
  have lw := HW.out.1
  clear hm hw hb h1 h2 HZ
  go_enter Tryz.func146, Tryz.ntmps146
  go_wp2_with fail
  generalize World.alloc (World.alloc w _) _ = W0 at *
  have l1 := lt_of_block H1.out
  have l2 := lt_of_block H2.out
  obtain ⟨m0, hm0⟩ := HM.out
  have hs := Tryz.strings_Split ⟨#[42]⟩ ⟨#[44]⟩ m0 W0 (by decide) hm0 (by decide)
  rw [show Lib.countB (⟨#[42]⟩ : ByteArray) ⟨#[44]⟩ = 0 from split_star.1, show Lib.splitB ⟨#[44]⟩ 0 0 (⟨#[42]⟩ : ByteArray) = [⟨#[42]⟩] from split_star.2] at hs
  refine hs.mono ?_
  rintro e W1 ⟨rfl, hW1⟩
  have hb1 : Below W0.heap.size W0 W1 := by rw [hW1]; exact below_alloc1 _ _
  have HS := Lib.hid (show CA W1 W0.heap.size [.string ⟨#[42]⟩] by rw [hW1]; exact CA.made W0 [.string ⟨#[42]⟩] _)
  have H1 := Lib.hid ((hb1.block _ l1).trans H1.out)
  have H2 := Lib.hid ((hb1.block _ l2).trans H2.out)
  have HM := Lib.hid (HM.out.below hb1)
  have HW := Lib.hid (HW.out.below hb1)
  have HB := Lib.hid (HB.out.trans (hb1.mono HB.out.size))
  have hsz1 := hb1.size
  have s0 := HS.out.2 0 _ rfl
  have ls := HS.out.1
  clear hs hm0 hW1 hb1 c0 c1 c2 c3 l1 l2
  have l1 := lt_of_block H1.out
  have l2 := lt_of_block H2.out
  go_wp2_with fail
  refine wp_loop_rounds 2 ?_
  rw [rounds_succ]
  go_wp2_with fail
  refine (readWhat_star W1).mono ?_
  rintro e W2 ⟨rfl, hb2⟩
  have H1 := Lib.hid ((hb2.block _ l1).trans H1.out)
  have H2 := Lib.hid ((hb2.block _ l2).trans H2.out)
  have HM := Lib.hid (HM.out.below hb2)
  have HW := Lib.hid (HW.out.below hb2)
  have HB := Lib.hid (HB.out.trans (hb2.mono HB.out.size))
  clear l1 l2 s0 ls HS hsz1 hb2 lw
  have l1 := lt_of_block H1.out
  have l2 := lt_of_block H2.out
  have lw := HW.out.1
  have hB2 := HB.out.size
  have y0 := cell_of H2.out 0
  simp only [List.getElem?_toArray, List.getElem?_cons_zero] at y0
  have HOW := Lib.hid (World.ownsRow_nil (W2.alloc (.cells #[.int .i64 1, .string ⟨#[]⟩, .bool false, .int .u64 0, .int .u64 0, .int .i64 0] 265)) W2.heap.size 265 6)
  have hzA : (W2.alloc (.cells #[.int .i64 1, .string ⟨#[]⟩, .bool false, .int .u64 0, .int .u64 0, .int .i64 0] 265)).heap.size = W2.heap.size + 1 := by simp
  have H1A := Lib.hid ((heap_alloc_old W2 (.cells #[.int .i64 1, .string ⟨#[]⟩, .bool false, .int .u64 0, .int .u64 0, .int .i64 0] 265) l1).trans H1.out)
  have H2A := Lib.hid ((heap_alloc_old W2 (.cells #[.int .i64 1, .string ⟨#[]⟩, .bool false, .int .u64 0, .int .u64 0, .int .i64 0] 265) l2).trans H2.out)
  have HMA := Lib.hid (HM.out.below (below_alloc1 W2 (.cells #[.int .i64 1, .string ⟨#[]⟩, .bool false, .int .u64 0, .int .u64 0, .int .i64 0] 265)))
  have HWA := Lib.hid (HW.out.below (below_alloc1 W2 (.cells #[.int .i64 1, .string ⟨#[]⟩, .bool false, .int .u64 0, .int .u64 0, .int .i64 0] 265)))
  have HBA := Lib.hid (HB.out.alloc HB.out.size (.cells #[.int .i64 1, .string ⟨#[]⟩, .bool false, .int .u64 0, .int .u64 0, .int .i64 0] 265))
  have yA := (World.cell?_alloc_lt W2 (.cells #[.int .i64 1, .string ⟨#[]⟩, .bool false, .int .u64 0, .int .u64 0, .int .i64 0] 265) ⟨w.heap.size + 1, 0, none⟩ l2).trans y0
  clear H1 H2 HM HW HB
  have HQA := Lib.hid (CA.made W2 starV 265)
  unfold starV at HQA
  obtain ⟨x0, x1, x2, x3, x4, x5⟩ := CA.c6 HQA.out
  have HZA := Lib.hid hzA
  clear hzA
  go_upto_region 10 with (fail)
  generalize World.alloc W2 _ = WA at *
  have lA1 := lt_of_block H1A.out
  have lA2 := lt_of_block H2A.out
  have HL2 := Lib.hid l2
  clear y0 l1 l2
  go_wp2_with (at_builtin; refine wpList_append_own _ rfl (.tmp 46) (.tmp 48) 205 rfl W2.heap.size 265 i0 (.agg #[.int .i64 0, .string ⟨#[]⟩, .bool false, .int .u64 0, .int .u64 0, .int .i64 0]) 6 56 Tryz.underlying205 hi hz0 hz1 hz2 rfl (by decide) _ _ _ rfl (HOW.out.alloc _) ⟨WA.heap.size, 0, none⟩ 1 1 [.int .i64 1, .string ⟨#[]⟩, .bool false, .int .u64 0, .int .u64 0, .int .i64 0] rfl rfl ?a1 ?a2 ?a3 ?a4 ?a5 ?_)
  case a1 => exact cells_new WA [.int .i64 1, .string ⟨#[]⟩, .bool false, .int .u64 0, .int .u64 0, .int .i64 0] _
  case a2 => simp [Value.oneCell']
  case a3 => unfold maxLen; omega
  case a4 => omega
  case a5 => have := HZA.out; simp; omega
  intro v3 W3 ho3 hg3 _
  obtain ⟨sb, cs, rfl, hsb, hsb2⟩ := own_one ho3 (by omega)
  have H1 := Lib.hid ((hg3.block _ (by simp; omega) (fun e => by cases e)).trans ((heap_alloc_old WA (.cells #[.int .i64 1, .string ⟨#[]⟩, .bool false, .int .u64 0, .int .u64 0, .int .i64 0] 265) lA1).trans H1A.out))
  have H2 := Lib.hid ((hg3.block _ (by simp; omega) (fun e => by cases e)).trans ((heap_alloc_old WA (.cells #[.int .i64 1, .string ⟨#[]⟩, .bool false, .int .u64 0, .int .u64 0, .int .i64 0] 265) lA2).trans H2A.out))
  have HM := Lib.hid ((HMA.out.below (below_alloc1 WA (.cells #[.int .i64 1, .string ⟨#[]⟩, .bool false, .int .u64 0, .int .u64 0, .int .i64 0] 265))).grownN hg3)
  have HW := Lib.hid ((HWA.out.alloc (.cells #[.int .i64 1, .string ⟨#[]⟩, .bool false, .int .u64 0, .int .u64 0, .int .i64 0] 265)).grown hg3 (fun e => by cases e))
  have HB := Lib.hid ((HBA.out.alloc HBA.out.size (.cells #[.int .i64 1, .string ⟨#[]⟩, .bool false, .int .u64 0, .int .u64 0, .int .i64 0] 265)).grown hg3 (by have := HBA.out.size; simp; omega) (fun j e => by cases e))
  have HSB := Lib.hid hsb
  have hsz3 := hg3.size
  have l2 := lt_of_block H2.out
  have y0 := cell_of H2.out 0
  have yf := eightF H2.out 0
  simp only [List.getElem?_toArray, List.getElem?_cons_zero] at y0
  clear ho3 hg3 hsb H1A H2A HMA HWA HBA HQA HOW x0 x1 x2 x3 x4 x5 yA lA1 lA2
  go_wp2_with fail
  have hne : sb ≠ w.heap.size + 1 := by have := HL2.out; omega
  have hsbn : w.heap.size + 1 < sb := by have := HL2.out; omega
  have H2n := Lib.hid (heap_set H2.out 0 (.slice (some ⟨sb, 0, none⟩) 1 cs))
  have H1n := Lib.hid ((Below.heap_setCell W3 ⟨w.heap.size + 1, 0, none⟩ (.slice (some ⟨sb, 0, none⟩) 1 cs) w.heap.size (by simp)).trans H1.out)
  have HBn := Lib.hid (below_put HB.out HB.out.size (show w.heap.size ≤ w.heap.size + 1 by omega) 0 (.slice (some ⟨sb, 0, none⟩) 1 cs))
  have HWn := Lib.hid (HW.out.set (g := w.heap.size + 1) (by omega) 0 (.slice (some ⟨sb, 0, none⟩) 1 cs))
  have HSBn := Lib.hid (HSB.out.set (g := w.heap.size + 1) hne 0 (.slice (some ⟨sb, 0, none⟩) 1 cs))
  have HMn := Lib.hid (HM.out.set (g := w.heap.size + 1) (by omega) 0 (.slice (some ⟨sb, 0, none⟩) 1 cs))
  clear H1 H2 HB HW HSB HM y0 yf l2 lw hne
  generalize hW : World.setCell W3 _ _ = W4 at *
  clear hW
  rw [rounds_succ]
  obtain ⟨c0, c1, c2, c3⟩ := CA.c4 HWn.out
  have lw := HWn.out.1
  go_wp2_with fail
  have l1 := lt_of_block H1n.out
  have l2 := lt_of_block H2n.out
  obtain ⟨m0, hm0⟩ := HMn.out
  have hs := Tryz.strings_Split ⟨#[42]⟩ ⟨#[44]⟩ m0 W4 (by decide) hm0 (by decide)
  rw [show Lib.countB (⟨#[42]⟩ : ByteArray) ⟨#[44]⟩ = 0 from split_star.1, show Lib.splitB ⟨#[44]⟩ 0 0 (⟨#[42]⟩ : ByteArray) = [⟨#[42]⟩] from split_star.2] at hs
  refine hs.mono ?_
  rintro e W5 ⟨rfl, hW1⟩
  have hb1 : Below W4.heap.size W4 W5 := by rw [hW1]; exact below_alloc1 _ _
  have HS := Lib.hid (show CA W5 W4.heap.size [.string ⟨#[42]⟩] by rw [hW1]; exact CA.made W4 [.string ⟨#[42]⟩] _)
  have H1 := Lib.hid ((hb1.block _ l1).trans H1n.out)
  have H2 := Lib.hid ((hb1.block _ l2).trans H2n.out)
  have HM := Lib.hid (HMn.out.below hb1)
  have HB := Lib.hid (HBn.out.trans (hb1.mono HBn.out.size))
  have HSB := Lib.hid (HSBn.out.below hb1)
  have s0 := HS.out.2 0 _ rfl
  have ls := HS.out.1
  clear hs hm0 hW1 hb1 c0 c1 c2 c3 l1 l2 H1n H2n HMn HBn HWn HSBn lw
  have l1 := lt_of_block H1.out
  have l2 := lt_of_block H2.out
  go_wp2_with fail
  refine wp_loop_rounds 2 ?_
  rw [rounds_succ]
  go_wp2_with fail
  refine (readTarget_star W5 HM.out).mono ?_
  rintro e W6 ⟨rfl, hb2⟩
  have H1 := Lib.hid ((hb2.block _ l1).trans H1.out)
  have H2 := Lib.hid ((hb2.block _ l2).trans H2.out)
  have HB := Lib.hid (HB.out.trans (hb2.mono HB.out.size))
  have HSB := Lib.hid (HSB.out.below hb2)
  clear l1 l2 s0 ls HS hb2 HM
  have l1 := lt_of_block H1.out
  have l2 := lt_of_block H2.out
  have y1 := cell_of H2.out 1
  simp only [List.getElem?_toArray, List.getElem?_cons_zero, List.getElem?_cons_succ, List.setIfInBounds_toArray, List.set_cons_zero] at y1
  have HOW := Lib.hid (World.ownsRow_nil (W6.alloc (.cells #[.int .i64 1, .string ⟨#[]⟩, .bool false, .int .u64 0, .int .u64 0, .int .i64 0, .int .i64 0, .int .i64 65535] 269)) W6.heap.size 269 8)
  have HZA := Lib.hid (show (W6.alloc (.cells #[.int .i64 1, .string ⟨#[]⟩, .bool false, .int .u64 0, .int .u64 0, .int .i64 0, .int .i64 0, .int .i64 65535] 269)).heap.size = W6.heap.size + 1 by simp)
  have H1A := Lib.hid ((heap_alloc_old W6 (.cells #[.int .i64 1, .string ⟨#[]⟩, .bool false, .int .u64 0, .int .u64 0, .int .i64 0, .int .i64 0, .int .i64 65535] 269) l1).trans H1.out)
  have H2A := Lib.hid ((heap_alloc_old W6 (.cells #[.int .i64 1, .string ⟨#[]⟩, .bool false, .int .u64 0, .int .u64 0, .int .i64 0, .int .i64 0, .int .i64 65535] 269) l2).trans H2.out)
  have HBA := Lib.hid (HB.out.alloc HB.out.size (.cells #[.int .i64 1, .string ⟨#[]⟩, .bool false, .int .u64 0, .int .u64 0, .int .i64 0, .int .i64 0, .int .i64 65535] 269))
  have HSBA := Lib.hid (HSB.out.alloc (.cells #[.int .i64 1, .string ⟨#[]⟩, .bool false, .int .u64 0, .int .u64 0, .int .i64 0, .int .i64 0, .int .i64 65535] 269))
  have yA := (World.cell?_alloc_lt W6 (.cells #[.int .i64 1, .string ⟨#[]⟩, .bool false, .int .u64 0, .int .u64 0, .int .i64 0, .int .i64 0, .int .i64 65535] 269) ⟨w.heap.size + 1, 1, none⟩ l2).trans y1
  have HQA := Lib.hid (CA.made W6 targV 269)
  unfold targV at HQA
  obtain ⟨x0, x1, x2, x3, x4, x5, x6, x7⟩ := CA.c8 HQA.out
  have HL2 := Lib.hid l2
  clear H1 H2 HB HSB y1 l1 l2
  go_upto_region 18 with (fail)
  generalize World.alloc W6 _ = WB at *
  have lA1 := lt_of_block H1A.out
  have lA2 := lt_of_block H2A.out
  go_wp2_with (at_builtin; refine wpList_append_own _ rfl (.tmp 70) (.tmp 72) 206 rfl W6.heap.size 269 k0 (.agg #[.int .i64 0, .string ⟨#[]⟩, .bool false, .int .u64 0, .int .u64 0, .int .i64 0, .int .i64 0, .int .i64 0]) 8 72 Tryz.underlying206 hki kz0 kz1 kz2 rfl (by decide) _ _ _ rfl (HOW.out.alloc _) ⟨WB.heap.size, 0, none⟩ 1 1 [.int .i64 1, .string ⟨#[]⟩, .bool false, .int .u64 0, .int .u64 0, .int .i64 0, .int .i64 0, .int .i64 65535] rfl rfl ?b1 ?b2 ?b3 ?b4 ?b5 ?_)
  case b1 => exact cells_new WB [.int .i64 1, .string ⟨#[]⟩, .bool false, .int .u64 0, .int .u64 0, .int .i64 0, .int .i64 0, .int .i64 65535] _
  case b2 => simp [Value.oneCell']
  case b3 => unfold maxLen; omega
  case b4 => omega
  case b5 => have := HZA.out; simp; omega
  intro v3 W7 ho3 hg3 _
  obtain ⟨db, cd, rfl, hdb, hdb2⟩ := own_one ho3 (by omega)
  have H1 := Lib.hid ((hg3.block _ (by simp; omega) (fun e => by cases e)).trans ((heap_alloc_old WB (.cells #[.int .i64 1, .string ⟨#[]⟩, .bool false, .int .u64 0, .int .u64 0, .int .i64 0, .int .i64 0, .int .i64 65535] 269) lA1).trans H1A.out))
  have H2 := Lib.hid ((hg3.block _ (by simp; omega) (fun e => by cases e)).trans ((heap_alloc_old WB (.cells #[.int .i64 1, .string ⟨#[]⟩, .bool false, .int .u64 0, .int .u64 0, .int .i64 0, .int .i64 0, .int .i64 65535] 269) lA2).trans H2A.out))
  have HB := Lib.hid ((HBA.out.alloc HBA.out.size (.cells #[.int .i64 1, .string ⟨#[]⟩, .bool false, .int .u64 0, .int .u64 0, .int .i64 0, .int .i64 0, .int .i64 65535] 269)).grown hg3 (by have := HBA.out.size; simp; omega) (fun j e => by cases e))
  have HSB := Lib.hid ((HSBA.out.alloc (.cells #[.int .i64 1, .string ⟨#[]⟩, .bool false, .int .u64 0, .int .u64 0, .int .i64 0, .int .i64 0, .int .i64 65535] 269)).grown hg3 (fun e => by cases e))
  have HDB := Lib.hid hdb
  have l2 := lt_of_block H2.out
  have y1 := cell_of H2.out 1
  have yf := eightF H2.out 1
  simp only [List.getElem?_toArray, List.getElem?_cons_zero, List.getElem?_cons_succ, List.setIfInBounds_toArray, List.set_cons_zero] at y1
  clear ho3 hg3 hdb H1A H2A HBA HSBA HQA HOW x0 x1 x2 x3 x4 x5 x6 x7 yA lA1 lA2
  go_wp2_with fail
  have hne : db ≠ w.heap.size + 1 := by have := HL2.out; omega
  have hdbn : w.heap.size + 1 < db := by have := HL2.out; omega
  have hne2 : sb ≠ w.heap.size + 1 := by omega
  have h2n : (W7.setCell ⟨w.heap.size + 1, 1, none⟩ (.slice (some ⟨db, 0, none⟩) 1 cd)).heap[w.heap.size + 1]? = some (.cells #[.slice (some ⟨sb, 0, none⟩) 1 cs, .slice (some ⟨db, 0, none⟩) 1 cd, .int .i64 0, .slice none 0 0] 208 (0, 0)) := by simpa using heap_set H2.out 1 (.slice (some ⟨db, 0, none⟩) 1 cd)
  have H2n := Lib.hid h2n
  have H1n := Lib.hid ((Below.heap_setCell W7 ⟨w.heap.size + 1, 1, none⟩ (.slice (some ⟨db, 0, none⟩) 1 cd) w.heap.size (by simp)).trans H1.out)
  have HBn := Lib.hid (below_put HB.out HB.out.size (show w.heap.size ≤ w.heap.size + 1 by omega) 1 (.slice (some ⟨db, 0, none⟩) 1 cd))
  have HSBn := Lib.hid (HSB.out.set (g := w.heap.size + 1) hne2 1 (.slice (some ⟨db, 0, none⟩) 1 cd))
  have HDBn := Lib.hid (HDB.out.set (g := w.heap.size + 1) hne 1 (.slice (some ⟨db, 0, none⟩) 1 cd))
  clear H1 H2 HB HSB HDB y1 yf l2 hne hne2 h2n
  generalize hW : World.setCell W7 _ _ = W8 at *
  clear hW
  rw [rounds_succ]
  obtain ⟨c0, c1, c2, c3⟩ := fourC H2n.out
  obtain ⟨d0, d1, d2, d3⟩ := fourC H1n.out
  have f0 := eightF H1n.out 0
  have f1 := eightF H1n.out 1
  have f2 := eightF H1n.out 2
  have f3 := eightF H1n.out 3
  have l1 := lt_of_block H1n.out
  go_wp2_with fail
  clear c0 c1 c2 c3 d0 d1 d2 d3 f0 f1 f2 f3
  have hr := ((((Re.refl H1n.out).set 0 (.slice (some ⟨sb, 0, none⟩) 1 cs)).set 1 (.slice (some ⟨db, 0, none⟩) 1 cd)).set 2 (.int .i64 0)).set 3 (.slice none 0 0)
  have hbr := hr.below HBn.out (Nat.le_refl _)
  have hsx := (((HSBn.out.set (g := w.heap.size) (by have := hsbn; omega) 0 (.slice (some ⟨sb, 0, none⟩) 1 cs)).set (g := w.heap.size) (by have := hsbn; omega) 1 (.slice (some ⟨db, 0, none⟩) 1 cd)).set (g := w.heap.size) (by have := hsbn; omega) 2 (.int .i64 0)).set (g := w.heap.size) (by have := hsbn; omega) 3 (.slice none 0 0)
  have hdx := (((HDBn.out.set (g := w.heap.size) (by have := hdbn; omega) 0 (.slice (some ⟨sb, 0, none⟩) 1 cs)).set (g := w.heap.size) (by have := hdbn; omega) 1 (.slice (some ⟨db, 0, none⟩) 1 cd)).set (g := w.heap.size) (by have := hdbn; omega) 2 (.int .i64 0)).set (g := w.heap.size) (by have := hdbn; omega) 3 (.slice none 0 0)
  generalize hW : World.setCell _ _ _ = W9
  rw [hW] at hr hbr hsx hdx
  clear hW
  have hbk : W9.heap[w.heap.size]? = some (.cells #[.slice (some ⟨sb, 0, none⟩) 1 cs, .slice (some ⟨db, 0, none⟩) 1 cd, .int .i64 0, .slice none 0 0] 208 (0, 0)) := by simpa using hr.blk
  obtain ⟨z0, z1, z2, z3⟩ := fourC hbk
  refine bodyPost_ret (v := .tuple #[.agg #[.slice (some ⟨sb, 0, none⟩) 1 cs, .slice (some ⟨db, 0, none⟩) 1 cd, .int .i64 0, .slice none 0 0], .bool true]) (by simp [results, Tryz.results146, go_sem, z0, z1, z2, z3]) rfl ⟨sb, cs, db, cd, rfl, hsx, hdx, hbr, by omega, by omega⟩
end Go.Proofs.YtajifionclpphaaGreatDoor

namespace Go.Proofs.YtajifionclpphaaGreatDoor
open Go.RowKit Go.Hw Go.Shelf

def kindsV : List ByteArray := [⟨#[103, 114, 111, 117, 112]⟩, ⟨#[104, 111, 115, 116]⟩, ⟨#[97, 108, 108, 111, 119]⟩, ⟨#[97, 99, 99, 101, 112, 116]⟩, ⟨#[100, 101, 110, 121]⟩]
/-- What line does. -/
def LineOut (w : World) (R : Nat) (e : Ending) (w' : World) : Prop :=
  e = .returned (.bool true) ∧ ∃ gb cg sb cs db cd, w'.heap[R]? = some (.cells #[.slice none 0 0, .slice none 0 0, .slice (some ⟨gb, 0, none⟩) 1 cg, .slice none 0 0, .int .i64 2] 148 (0, 0)) ∧ PolAt w' gb cg sb cs db cd ∧ w.grownBy w' (some R)
theorem _root_.Go.World.grownBy.mono' {w w' : World} (h : w.grownBy w' none) (r : Option Nat) : w.grownBy w' r := ⟨h.os, h.tape, h.output, h.size, fun i hi _ => h.block i hi (by simp)⟩
set_option maxRecDepth 100000 in
set_option maxHeartbeats 4000000 in
theorem line_one (R : Nat) (w : World) (hR : w.heap[R]? = some (.cells #[.slice none 0 0, .slice none 0 0, .slice none 0 0, .slice none 0 0, .int .i64 0] 148 (0, 0))) (hm : MxW w) (hne : 0 ≠ R) :
    Calls Tryz.prog 90 #[.pointer (some ⟨R, 0, none⟩), .string lineA] w (LineOut w R) := by
  obtain ⟨i0, hi, hz0, hz1, hz2⟩ := info_parts Tryz.infoGrant
  have HR := Lib.hid hR
  have HM := Lib.hid hm
  have lR := lt_of_block hR
  have lR0 := lt_of_block hR
  clear hR hm
  go_enter Tryz.func90, Tryz.ntmps90
  go_wp2_with fail
  refine (words_one w HM.out).mono ?_
  rintro e W1 ⟨rfl, hW1⟩
  have hb1 : Below w.heap.size w W1 := by rw [hW1]; exact below_alloc1 _ _
  have HW := Lib.hid (show CA W1 w.heap.size wordsV by rw [hW1]; exact CA.made w wordsV _)
  have HR1 := Lib.hid ((hb1.block _ lR).trans HR.out)
  have HM1 := Lib.hid (HM.out.below hb1)
  have HB1 := Lib.hid hb1
  obtain ⟨c0, c1, c2, c3⟩ := CA.c4 HW.out
  have lw := HW.out.1
  have lR1 := lt_of_block HR1.out
  have HK := Lib.hid (CA.made W1 (kindsV.map Value.string) 9)
  unfold kindsV at HK
  simp only [List.map_cons, List.map_nil] at HK
  have hcell : ∀ j, j < 5 → (W1.alloc (.cells #[.string ⟨#[103, 114, 111, 117, 112]⟩, .string ⟨#[104, 111, 115, 116]⟩, .string ⟨#[97, 108, 108, 111, 119]⟩, .string ⟨#[97, 99, 99, 101, 112, 116]⟩, .string ⟨#[100, 101, 110, 121]⟩] 9)).cell? ⟨W1.heap.size, 0 + j, none⟩ = some (.string (kindsV.getD j ByteArray.empty)) := by
    intro j hj
    have hx := HK.out.2 j
    have : j = 0 ∨ j = 1 ∨ j = 2 ∨ j = 3 ∨ j = 4 := by omega
    rcases this with rfl | rfl | rfl | rfl | rfl <;> (rw [Nat.zero_add]; exact hx _ rfl)
  have hix := Tryz.slices_Index_string W1.heap.size 0 5 5 kindsV ⟨#[97, 108, 108, 111, 119]⟩ _ (by simp [kindsV]) (by omega) (fun j hj => hcell j (by have : kindsV.length = 5 := rfl; omega))
  rw [show Lib.idxOfS (kindsV.take 5) (⟨#[97, 108, 108, 111, 119]⟩ : ByteArray) = 2 from by kernel_rfl] at hix
  clear hW1 hb1 HR HM hcell lR HK
  go_wp2_with fail
  refine hix.mono ?_
  rintro e W2 ⟨rfl, rfl⟩
  have hb2 := below_alloc1 W1 (.cells #[.string ⟨#[103, 114, 111, 117, 112]⟩, .string ⟨#[104, 111, 115, 116]⟩, .string ⟨#[97, 108, 108, 111, 119]⟩, .string ⟨#[97, 99, 99, 101, 112, 116]⟩, .string ⟨#[100, 101, 110, 121]⟩] 9)
  have HR2 := Lib.hid ((hb2.block _ lR1).trans HR1.out)
  have HM2 := Lib.hid (HM1.out.below hb2)
  have HW2 := Lib.hid (HW.out.below hb2)
  have HB2 := Lib.hid (HB1.out.trans (hb2.mono HB1.out.size))
  have lRw : R < w.heap.size := by have := lR1; exact lR0
  clear hix hb2 HR1 HM1 HW HB1 c0 c1 c2 c3 lw lR1
  generalize World.alloc W1 _ = W2 at *
  have r4 := cell_of HR2.out 4
  have f4 := eightF HR2.out 4
  have lR2 := lt_of_block HR2.out
  simp only [List.getElem?_toArray, List.getElem?_cons_zero, List.getElem?_cons_succ] at r4
  have hmn : min (2 : Int) 3 = 2 := by decide
  go_upto_region 9 with (fail)
  have HR3 := Lib.hid (show (W2.setCell ⟨R, 4, none⟩ (.int .i64 2)).heap[R]? = some (.cells #[.slice none 0 0, .slice none 0 0, .slice none 0 0, .slice none 0 0, .int .i64 2] 148 (0, 0)) by simpa using heap_set HR2.out 4 (.int .i64 2))
  have HM3 := Lib.hid (HM2.out.set (g := R) hne 4 (.int .i64 2))
  have HW3 := Lib.hid (HW2.out.set (g := R) (by omega) 4 (.int .i64 2))
  have HG3 := Lib.hid (show w.grownBy (W2.setCell ⟨R, 4, none⟩ (.int .i64 2)) (some R) from (grownB HB2.out (some R)).andThen ⟨rfl, rfl, rfl, by simp, fun i _ hi => Below.heap_setCell W2 _ _ i (fun e => hi (by rw [e]))⟩ (fun _ h => .inr h))
  clear HR2 HM2 HW2 HB2 r4 f4 lR2
  generalize World.setCell W2 _ _ = W3 at *
  obtain ⟨c0, c1, c2, c3⟩ := CA.c4 HW3.out
  have lw := HW3.out.1
  have lR3 := lt_of_block HR3.out
  have hg := readGrant_one w.heap.size W3 HW3.out HM3.out
  go_wp2_with fail
  refine hg.mono ?_
  rintro e W4 ⟨sb, cs, db, cd, rfl, hs, hd, hb4, hsR, hdR⟩
  have hRs : sb ≠ R := by omega
  have hRd : db ≠ R := by omega
  have HR4 := Lib.hid ((hb4.block _ lR3).trans HR3.out)
  have HG4 := Lib.hid (HG3.out.andThen (grownB hb4 (some R)) (fun _ h => .inr h))
  have HSB := Lib.hid hs
  have HDB := Lib.hid hd
  clear hg hs hd hb4 HR3 HM3 HW3 HG3 c0 c1 c2 c3 lw lR3
  have lR4 := lt_of_block HR4.out
  have r2 := cell_of HR4.out 2
  have f2 := eightF HR4.out 2
  simp only [List.getElem?_toArray, List.getElem?_cons_zero, List.getElem?_cons_succ] at r2
  go_upto_region 25 with (fail)
  have HRA := Lib.hid ((heap_alloc_old W4 (.cells #[.slice (some ⟨sb, 0, none⟩) 1 cs, .slice (some ⟨db, 0, none⟩) 1 cd, .int .i64 0, .slice none 0 0] 208) lR4).trans HR4.out)
  have HGA := Lib.hid (HG4.out.andThen (World.grownBy_alloc W4 (.cells #[.slice (some ⟨sb, 0, none⟩) 1 cs, .slice (some ⟨db, 0, none⟩) 1 cd, .int .i64 0, .slice none 0 0] 208) (some R)) (fun _ h => .inr h))
  have HSBA := Lib.hid (HSB.out.alloc (.cells #[.slice (some ⟨sb, 0, none⟩) 1 cs, .slice (some ⟨db, 0, none⟩) 1 cd, .int .i64 0, .slice none 0 0] 208))
  have HDBA := Lib.hid (HDB.out.alloc (.cells #[.slice (some ⟨sb, 0, none⟩) 1 cs, .slice (some ⟨db, 0, none⟩) 1 cd, .int .i64 0, .slice none 0 0] 208))
  have HTA := Lib.hid (CA.made W4 [.slice (some ⟨sb, 0, none⟩) 1 cs, .slice (some ⟨db, 0, none⟩) 1 cd, .int .i64 0, .slice none 0 0] 208)
  have HZA := Lib.hid (show (W4.alloc (.cells #[.slice (some ⟨sb, 0, none⟩) 1 cs, .slice (some ⟨db, 0, none⟩) 1 cd, .int .i64 0, .slice none 0 0] 208)).heap.size = W4.heap.size + 1 by simp)
  obtain ⟨x0, x1, x2, x3⟩ := CA.c4 HTA.out
  have rA := (World.cell?_alloc_lt W4 (.cells #[.slice (some ⟨sb, 0, none⟩) 1 cs, .slice (some ⟨db, 0, none⟩) 1 cd, .int .i64 0, .slice none 0 0] 208) ⟨R, 2, none⟩ lR4).trans r2
  clear HR4 HG4 HSB HDB r2 f2
  generalize World.alloc W4 _ = WA at *
  have lRA := lt_of_block HRA.out
  have lTA := HTA.out.1
  go_region_law
    ((refine step_append_lies _ (by rfl) _ _ _ (by rfl) W4.heap.size 208 i0 _ 4 80 Tryz.underlying89 hi hz0 hz1 hz2 rfl (by omega) (.slice none 0 0) _ _ (by rfl) (World.ownsRow_nil _ _ _ _)
          ⟨WA.heap.size, 0, none⟩ 1 1 [.slice (some ⟨sb, 0, none⟩) 1 cs, .slice (some ⟨db, 0, none⟩) 1 cd, .int .i64 0, .slice none 0 0] (by rfl) (by rfl)
          (World.news_of_block (cs := #[.slice (some ⟨sb, 0, none⟩) 1 cs, .slice (some ⟨db, 0, none⟩) 1 cd, .int .i64 0, .slice none 0 0]) (t := 208) (fr := (0, 0)) (heap_alloc_new WA _)) (by simp [Value.oneCell'])
          (by omega) (by unfold maxLen; omega) (by omega) (by have := HZA.out; simp; omega) (WA.heap.size + 1) (by simp) ?_
      intro gg cg W5 hown5 hgrow hat hgl
      have rA : W5.cell? ⟨R, 2, none⟩ = some (.slice none 0 0) := (World.cell?_of_block (hgrow.block R (by (try simp); omega) (fun e => by cases e))).trans (by go_simp)
      have x0 : W5.cell? ⟨W4.heap.size, 0, none⟩ = some (.slice (some ⟨sb, 0, none⟩) 1 cs) := (World.cell?_of_block (hgrow.block W4.heap.size (by (try simp); omega) (fun e => by cases e))).trans (by go_simp)
      have x1 : W5.cell? ⟨W4.heap.size, 1, none⟩ = some (.slice (some ⟨db, 0, none⟩) 1 cd) := (World.cell?_of_block (hgrow.block W4.heap.size (by (try simp); omega) (fun e => by cases e))).trans (by go_simp)
      have x2 : W5.cell? ⟨W4.heap.size, 2, none⟩ = some (.int .i64 0) := (World.cell?_of_block (hgrow.block W4.heap.size (by (try simp); omega) (fun e => by cases e))).trans (by go_simp)
      have x3 : W5.cell? ⟨W4.heap.size, 3, none⟩ = some (.slice none 0 0) := (World.cell?_of_block (hgrow.block W4.heap.size (by (try simp); omega) (fun e => by cases e))).trans (by go_simp)
      have lR5 : R < W5.heap.size := (by have := hgrow.size; (try simp at this); omega)
      have fA : W5.frozen? ⟨R, 2, none⟩ = false := eightF ((hgrow.block R (by (try simp); omega) (fun e => by cases e)).trans ((heap_alloc_old WA _ lRA).trans HRA.out)) 2))
  all_goals
    have hg0 : (WA.alloc (.cells #[.slice (some ⟨sb, 0, none⟩) 1 cs, .slice (some ⟨db, 0, none⟩) 1 cd, .int .i64 0, .slice none 0 0] 208)).grownBy W5 none := ⟨hgrow.os, hgrow.tape, hgrow.output, hgrow.size, hgrow.block⟩
    have hca : CA W5 gg [.slice (some ⟨sb, 0, none⟩) 1 cs, .slice (some ⟨db, 0, none⟩) 1 cd, .int .i64 0, .slice none 0 0] := own_ca hown5
    have hge := (hown5.lt gg rfl).1
    have hneR : gg ≠ R := by omega
    have hlA : R < (WA.alloc (.cells #[.slice (some ⟨sb, 0, none⟩) 1 cs, .slice (some ⟨db, 0, none⟩) 1 cd, .int .i64 0, .slice none 0 0] 208)).heap.size := by simp; omega
    have hR5 := (hg0.block R hlA (fun e => by cases e)).trans ((heap_alloc_old WA (.cells #[.slice (some ⟨sb, 0, none⟩) 1 cs, .slice (some ⟨db, 0, none⟩) 1 cd, .int .i64 0, .slice none 0 0] 208) lRA).trans HRA.out)
    have HR6 := Lib.hid (show (W5.setCell ⟨R, 2, none⟩ (.slice (some ⟨gg, 0, none⟩) 1 cg)).heap[R]? = some (.cells #[.slice none 0 0, .slice none 0 0, .slice (some ⟨gg, 0, none⟩) 1 cg, .slice none 0 0, .int .i64 2] 148 (0, 0)) by simpa using heap_set hR5 2 (.slice (some ⟨gg, 0, none⟩) 1 cg))
    have HC6 := Lib.hid (hca.set (g := R) hneR 2 (.slice (some ⟨gg, 0, none⟩) 1 cg))
    have HS6 := Lib.hid (((HSBA.out.alloc (.cells #[.slice (some ⟨sb, 0, none⟩) 1 cs, .slice (some ⟨db, 0, none⟩) 1 cd, .int .i64 0, .slice none 0 0] 208)).grown hg0 (fun e => by cases e)).set (g := R) hRs 2 (.slice (some ⟨gg, 0, none⟩) 1 cg))
    have HD6 := Lib.hid (((HDBA.out.alloc (.cells #[.slice (some ⟨sb, 0, none⟩) 1 cs, .slice (some ⟨db, 0, none⟩) 1 cd, .int .i64 0, .slice none 0 0] 208)).grown hg0 (fun e => by cases e)).set (g := R) hRd 2 (.slice (some ⟨gg, 0, none⟩) 1 cg))
    have HG6 := Lib.hid (show w.grownBy (W5.setCell ⟨R, 2, none⟩ (.slice (some ⟨gg, 0, none⟩) 1 cg)) (some R) from ((HGA.out.andThen (World.grownBy_alloc WA (.cells #[.slice (some ⟨sb, 0, none⟩) 1 cs, .slice (some ⟨db, 0, none⟩) 1 cd, .int .i64 0, .slice none 0 0] 208) (some R)) (fun _ h => .inr h)).andThen (hg0.mono' (some R)) (fun _ h => .inr h)).andThen ⟨rfl, rfl, rfl, by simp, fun i _ hi => Below.heap_setCell W5 _ _ i (fun e => hi (by rw [e]))⟩ (fun _ h => .inr h))
    clear hg0 hca hge hneR hlA hR5 hgrow hown5 hat hgl rA x0 x1 x2 x3 fA lR5
    generalize World.setCell W5 _ _ = W6 at *
    go_wp2_with fail
    go_ret
    exact ⟨rfl, gg, cg, sb, cs, db, cd, HR6.out, ⟨HC6.out, HS6.out, HD6.out⟩, HG6.out⟩

theorem fiveC {W : World} {R : Nat} {a0 a1 a2 a3 a4 : Value} {T : TypeId} (h : W.heap[R]? = some (.cells #[a0, a1, a2, a3, a4] T (0, 0))) : (W.cell? ⟨R, 0, none⟩ = some a0 ∧ W.cell? ⟨R, 1, none⟩ = some a1 ∧ W.cell? ⟨R, 2, none⟩ = some a2 ∧ W.cell? ⟨R, 3, none⟩ = some a3) ∧ True := by
  refine ⟨⟨?_, ?_, ?_, ?_⟩, trivial⟩ <;> simp [World.cell?, h]
set_option maxRecDepth 100000 in
set_option maxHeartbeats 4000000 in
theorem read_one (w : World) (hm : MxW w) : Calls Tryz.prog 45 #[.string txtA] w fun e w' => ∃ gb cg, e = .returned (.tuple #[.agg #[.slice none 0 0, .slice none 0 0, .slice (some ⟨gb, 0, none⟩) 1 cg, .slice none 0 0], .int .i64 0, .int .i64 0]) ∧ Below w.heap.size w w' := by
  have h1 := heap_alloc_new w (.cells #[.slice none 0 0, .slice none 0 0, .slice none 0 0, .slice none 0 0] 92)
  have hb := below_alloc1 w (.cells #[.slice none 0 0, .slice none 0 0, .slice none 0 0, .slice none 0 0] 92)
  have H1 := Lib.hid h1
  have HM := Lib.hid (hm.below hb)
  have HB := Lib.hid hb
  have l1 := lt_of_block h1
  have e1 : (txtA.size : Int) = 13 := by kernel_rfl
  have hm0 := hm.lt
  clear h1 hb hm
  go_enter Tryz.func45, Tryz.ntmps45
  go_wp2_with fail
  generalize World.alloc w _ = W0 at *
  refine (lines_one W0 HM.out).mono ?_
  rintro e W1 ⟨rfl, hW1⟩
  have hb1 : Below W0.heap.size W0 W1 := by rw [hW1]; exact below_alloc1 _ _
  have HL := Lib.hid (show CA W1 W0.heap.size [.string lineA, .string ⟨#[]⟩] by rw [hW1]; exact CA.made W0 [.string lineA, .string ⟨#[]⟩] _)
  have H1 := Lib.hid ((hb1.block _ l1).trans H1.out)
  have HM := Lib.hid (HM.out.below hb1)
  have HB := Lib.hid (HB.out.trans (hb1.mono HB.out.size))
  have hs1 := HB.out.size
  clear hW1 hb1 l1
  have l1 := lt_of_block H1.out
  have lw1 := l1
  have hr := heap_alloc_new W1 (.cells #[.slice none 0 0, .slice none 0 0, .slice none 0 0, .slice none 0 0, .int .i64 0] 148)
  have hb2 := below_alloc1 W1 (.cells #[.slice none 0 0, .slice none 0 0, .slice none 0 0, .slice none 0 0, .int .i64 0] 148)
  have HR := Lib.hid hr
  have HL := Lib.hid (HL.out.below hb2)
  have H1 := Lib.hid ((hb2.block _ l1).trans H1.out)
  have HM := Lib.hid (HM.out.below hb2)
  have HB := Lib.hid (HB.out.trans (hb2.mono HB.out.size))
  have c0 := HL.out.2 0 _ rfl
  have ll := HL.out.1
  clear hr hb2 l1
  go_upto_region 5 with (fail)
  generalize World.alloc W1 _ = W2 at *
  have l1 := lt_of_block H1.out
  go_wp2_with fail
  refine wp_loop_rounds 2 ?_
  rw [rounds_succ]
  go_wp2_with fail
  refine (line_one W1.heap.size W2 HR.out HM.out (by omega)).mono ?_
  rintro e W3 ⟨rfl, gb, cg, sb, cs, db, cd, hR, hP, hg⟩
  have H1 := Lib.hid ((hg.block _ l1 (fun e => by injection e with e; omega)).trans H1.out)
  have HB := Lib.hid (HB.out.grown hg HB.out.size (fun j e => by injection e with e; omega))
  have HR := Lib.hid hR
  have HP := Lib.hid hP
  obtain ⟨⟨r0, r1, r2, r3⟩, -⟩ := fiveC hR
  have lR := lt_of_block hR
  clear hR hP hg c0 ll l1 HM HL
  have l1 := lt_of_block H1.out
  go_wp2_with fail
  rw [rounds_succ]
  go_wp2_with fail
  refine (checkPolicy_one gb cg sb cs db cd W3 HP.out).mono ?_
  rintro e W4 ⟨rfl, hb4⟩
  have H1 := Lib.hid ((hb4.block _ l1).trans H1.out)
  have hR := (hb4.block _ lR).trans HR.out
  have HB := Lib.hid (HB.out.trans (hb4.mono HB.out.size))
  obtain ⟨⟨r0, r1, r2, r3⟩, -⟩ := fiveC hR
  have lR := lt_of_block hR
  clear hb4 HP HR hR l1
  obtain ⟨d0, d1, d2, d3⟩ := fourC H1.out
  have f0 := eightF H1.out 0
  have f1 := eightF H1.out 1
  have f2 := eightF H1.out 2
  have f3 := eightF H1.out 3
  have l1 := lt_of_block H1.out
  go_wp2_with fail
  clear d0 d1 d2 d3 f0 f1 f2 f3 r0 r1 r2 r3
  have hr := ((((Re.refl H1.out).set 0 (.slice none 0 0)).set 1 (.slice none 0 0)).set 2 (.slice (some ⟨gb, 0, none⟩) 1 cg)).set 3 (.slice none 0 0)
  have hbr := hr.below HB.out (Nat.le_refl _)
  generalize hW : World.setCell _ _ _ = W9
  rw [hW] at hr hbr
  clear hW
  have hbk : W9.heap[w.heap.size]? = some (.cells #[.slice none 0 0, .slice none 0 0, .slice (some ⟨gb, 0, none⟩) 1 cg, .slice none 0 0] 92 (0, 0)) := by simpa using hr.blk
  obtain ⟨z0, z1, z2, z3⟩ := fourC hbk
  refine bodyPost_ret (v := .tuple #[.agg #[.slice none 0 0, .slice none 0 0, .slice (some ⟨gb, 0, none⟩) 1 cg, .slice none 0 0], .int .i64 0, .int .i64 0]) (by simp [results, Tryz.results45, go_sem, z0, z1, z2, z3]) rfl ⟨gb, cg, rfl, hbr⟩
end Go.Proofs.YtajifionclpphaaGreatDoor
