/- lanekeep2's ready(): kit.Lines, kit.Words at what it reads. -/
import Derived.Test.YtpbcbgoenoolfaaGreatDoorRyA
import Derived.Deep.RegionHeld3
import Derived.Deep.RegionLaw
import Derived.Deep.Cut
import Derived.Deep.CutRange
namespace Go.Proofs.YtpbcbgoenoolfaaGreatDoor
open Go.RowKit Go.Hw Go.Shelf

theorem below_alloc1 (w : World) (o : Obj) : Below w.heap.size w (w.alloc o) := (Below.refl _ _).alloc (Nat.le_refl _) _
/-- The library's variable holds some number. -/
def MxW (w : World) : Prop := ∃ m, w.cell? ⟨0, 0, none⟩ = some (.int .i64 m)
theorem MxW.lt {w : World} (h : MxW w) : 0 < w.heap.size := by
  obtain ⟨m, hm⟩ := h
  by_cases hlt : 0 < w.heap.size
  · exact hlt
  · have hn : w.heap[0]? = none := Array.getElem?_eq_none (by omega)
    simp [World.cell?, hn] at hm
theorem MxW.below {w w' : World} (h : MxW w) (hb : Below w.heap.size w w') : MxW w' :=
  let ⟨m, hm⟩ := h
  ⟨m, (hb.cell (p := ⟨0, 0, none⟩) h.lt).trans hm⟩
def txtA : ByteArray := ⟨#[97, 108, 108, 111, 119, 32, 42, 32, 45, 62, 32, 42, 10]⟩
def lineA : ByteArray := ⟨#[97, 108, 108, 111, 119, 32, 42, 32, 45, 62, 32, 42]⟩
def wAllow : ByteArray := ⟨#[97, 108, 108, 111, 119]⟩
def wStar : ByteArray := ⟨#[42]⟩
def wTo : ByteArray := ⟨#[45, 62]⟩
theorem split_lines : Lib.countB txtA ⟨#[10]⟩ = 1 ∧ Lib.splitB ⟨#[10]⟩ 0 1 txtA = [lineA, ⟨#[]⟩] := ⟨by kernel_rfl, by kernel_rfl⟩
theorem split_words : Lib.countB lineA ⟨#[32]⟩ = 3 ∧ Lib.splitB ⟨#[32]⟩ 0 3 lineA = [wAllow, wStar, wTo, wStar] := ⟨by kernel_rfl, by kernel_rfl⟩
theorem split_star : Lib.countB wStar ⟨#[44]⟩ = 0 ∧ Lib.splitB ⟨#[44]⟩ 0 0 wStar = [wStar] := ⟨by kernel_rfl, by kernel_rfl⟩
theorem cut_star : Lib.cut wStar.data.toList [59] = ([42], [], false) := by kernel_rfl
theorem contains_none : Lib.containsS ([wAllow, wStar, wTo, wStar].take 4) ⟨#[]⟩ = false := by kernel_rfl
theorem idx_allow : Lib.idxOfS ([⟨#[103, 114, 111, 117, 112]⟩, ⟨#[104, 111, 115, 116]⟩, wAllow, ⟨#[97, 99, 99, 101, 112, 116]⟩, ⟨#[100, 101, 110, 121]⟩].take 5) wAllow = 2 := by kernel_rfl

def linesBlk : Obj := .cells #[.string lineA, .string ⟨#[]⟩] 9
set_option maxRecDepth 100000 in
set_option maxHeartbeats 1000000 in
theorem lines_one (w : World) (h : MxW w) : Calls Tryz.prog 49 #[.string txtA] w fun e w' => e = .returned (.tuple #[.slice (some ⟨w.heap.size, 0, none⟩) 1 2, .bool true]) ∧ w' = w.alloc (.cells #[.string lineA, .string ⟨#[]⟩] 9) := by
  obtain ⟨m, hm⟩ := h
  have hs := Tryz.strings_Split txtA ⟨#[10]⟩ m w (by decide) hm (by decide)
  rw [split_lines.1, split_lines.2] at hs
  have c0 := heap_alloc_new w (.cells #[.string lineA, .string ⟨#[]⟩] 9)
  have y1 := cell_of c0 1
  simp only [List.getElem?_toArray, List.getElem?_cons_zero, List.getElem?_cons_succ] at y1
  clear c0
  go_enter Tryz.func49, Tryz.ntmps49
  go_wp2_with fail
  refine hs.mono ?_
  rintro e w1 ⟨rfl, rfl⟩
  clear hs
  simp only [List.map_cons, List.map_nil]
  go_wp2_with fail
  go_ret2
  exact ⟨rfl, rfl⟩
set_option maxRecDepth 100000 in
set_option maxHeartbeats 1000000 in
theorem words_one (w : World) (h : MxW w) : Calls Tryz.prog 92 #[.string lineA] w fun e w' => e = .returned (.tuple #[.slice (some ⟨w.heap.size, 0, none⟩) 4 4, .bool true]) ∧ w' = w.alloc (.cells #[.string wAllow, .string wStar, .string wTo, .string wStar] 9) := by
  obtain ⟨m, hm⟩ := h
  have hs := Tryz.strings_Split lineA ⟨#[32]⟩ m w (by decide) hm (by decide)
  rw [split_words.1, split_words.2] at hs
  have c0 := heap_alloc_new w (.cells #[.string wAllow, .string wStar, .string wTo, .string wStar] 9)
  have hcell : ∀ j, j < 4 → (w.alloc (.cells #[.string wAllow, .string wStar, .string wTo, .string wStar] 9)).cell? ⟨w.heap.size, 0 + j, none⟩ = some (.string (([wAllow, wStar, wTo, wStar] : List ByteArray).getD j ByteArray.empty)) := by
    intro j hj
    have : j = 0 ∨ j = 1 ∨ j = 2 ∨ j = 3 := by omega
    rcases this with rfl | rfl | rfl | rfl <;> (simp only [World.cell?, c0]; rfl)
  have hk := Tryz.slices_Contains_string w.heap.size 0 4 4 [wAllow, wStar, wTo, wStar] ⟨#[]⟩ (w.alloc (.cells #[.string wAllow, .string wStar, .string wTo, .string wStar] 9)) (by simp) (by omega) (by simpa using hcell)
  rw [contains_none] at hk
  clear c0 hcell
  go_enter Tryz.func92, Tryz.ntmps92
  go_wp2_with fail
  refine hs.mono ?_
  rintro e w1 ⟨rfl, rfl⟩
  clear hs
  simp only [List.map_cons, List.map_nil]
  go_wp2_with fail
  refine hk.mono ?_
  rintro e w1 ⟨rfl, rfl⟩
  clear hk
  go_wp2_with fail
  go_ret2
  exact ⟨rfl, rfl⟩
/-! ### "*" -/
theorem sixC {W : World} {R : Nat} {a0 a1 a2 a3 a4 a5 : Value} {T : TypeId} (h : W.heap[R]? = some (.cells #[a0, a1, a2, a3, a4, a5] T (0, 0))) : W.cell? ⟨R, 0, none⟩ = some a0 ∧ W.cell? ⟨R, 1, none⟩ = some a1 ∧ W.cell? ⟨R, 2, none⟩ = some a2 ∧ W.cell? ⟨R, 3, none⟩ = some a3 ∧ W.cell? ⟨R, 4, none⟩ = some a4 ∧ W.cell? ⟨R, 5, none⟩ = some a5 := by
  refine ⟨?_, ?_, ?_, ?_, ?_, ?_⟩ <;> simp [World.cell?, h]
theorem eightC {W : World} {R : Nat} {a0 a1 a2 a3 a4 a5 a6 a7 : Value} {T : TypeId} (h : W.heap[R]? = some (.cells #[a0, a1, a2, a3, a4, a5, a6, a7] T (0, 0))) : W.cell? ⟨R, 0, none⟩ = some a0 ∧ W.cell? ⟨R, 1, none⟩ = some a1 ∧ W.cell? ⟨R, 2, none⟩ = some a2 ∧ W.cell? ⟨R, 3, none⟩ = some a3 ∧ W.cell? ⟨R, 4, none⟩ = some a4 ∧ W.cell? ⟨R, 5, none⟩ = some a5 ∧ W.cell? ⟨R, 6, none⟩ = some a6 ∧ W.cell? ⟨R, 7, none⟩ = some a7 := by
  refine ⟨?_, ?_, ?_, ?_, ?_, ?_, ?_, ?_⟩ <;> simp [World.cell?, h]
theorem eightF {W : World} {R : Nat} {cs : Array Value} {T : TypeId} (h : W.heap[R]? = some (.cells cs T (0, 0))) (j : Nat) : W.frozen? ⟨R, j, none⟩ = false := by simp [World.frozen?, h]
def whatBlk : Obj := .cells #[.int .i64 1, .string ⟨#[]⟩, .bool false, .int .u64 0, .int .u64 0, .int .i64 0] 226
def targBlk : Obj := .cells #[.int .i64 1, .string ⟨#[]⟩, .bool false, .int .u64 0, .int .u64 0, .int .i64 0, .int .i64 0, .int .i64 65535] 230
set_option maxRecDepth 100000 in
set_option maxHeartbeats 1000000 in
theorem readWhat_star (w : World) : Calls Tryz.prog 139 #[.string ⟨#[42]⟩] w fun e w' => e = .returned (.tuple #[.agg #[.int .i64 1, .string ⟨#[]⟩, .bool false, .int .u64 0, .int .u64 0, .int .i64 0], .bool true]) ∧ Below w.heap.size w w' := by
  have hr := heap_alloc_new w whatBlk
  obtain ⟨y0, y1, y2, y3, y4, y5⟩ := sixC hr
  have HB := Lib.hid ((Below.refl w.heap.size w).alloc (Nat.le_refl _) whatBlk)
  unfold whatBlk at y0 y1 y2 y3 y4 y5 HB
  clear hr
  go_enter Tryz.func139, Tryz.ntmps139
  go_wp2_with fail
  refine bodyPost_ret (v := .tuple #[.agg #[.int .i64 1, .string ⟨#[]⟩, .bool false, .int .u64 0, .int .u64 0, .int .i64 0], .bool true]) (by simp [results, Tryz.results139, go_sem, y0, y1, y2, y3, y4, y5]) rfl ⟨rfl, HB.out⟩
def R9 (W2 : World) (v9 : Value) (wc : World) : Prop := ∃ b9, v9 = .pointer (some ⟨b9, 0, none⟩) ∧ (wc.heap[b9]? = some (.cells #[.int .i64 1, .string ⟨#[]⟩, .bool false, .int .u64 0, .int .u64 0, .int .i64 0, .int .i64 0, .int .i64 65535] 230 (0, 0)) ∧ W2.heap.size ≤ b9) ∧ Below W2.heap.size W2 wc
set_option maxRecDepth 100000 in
set_option maxHeartbeats 1000000 in
theorem readTarget_star (w : World) (h : MxW w) : Calls Tryz.prog 140 #[.string ⟨#[42]⟩] w fun e w' => e = .returned (.tuple #[.agg #[.int .i64 1, .string ⟨#[]⟩, .bool false, .int .u64 0, .int .u64 0, .int .i64 0, .int .i64 0, .int .i64 65535], .bool true]) ∧ Below w.heap.size w w' := by
  obtain ⟨m, hm⟩ := h.below (below_alloc1 w (.cells #[.int .i64 0, .string ⟨#[]⟩, .bool false, .int .u64 0, .int .u64 0, .int .i64 0, .int .i64 0, .int .i64 0] 230))
  have hc := Tryz.strings_Cut ⟨#[42]⟩ ⟨#[59]⟩ m _ (by decide) hm
  rw [show Lib.cut (⟨#[42]⟩ : ByteArray).data.toList (⟨#[59]⟩ : ByteArray).data.toList = ([42], [], false) from cut_star] at hc
  have hr := heap_alloc_new w (.cells #[.int .i64 0, .string ⟨#[]⟩, .bool false, .int .u64 0, .int .u64 0, .int .i64 0, .int .i64 0, .int .i64 0] 230)
  have HR := Lib.hid hr
  have HB := Lib.hid ((Below.refl w.heap.size w).alloc (Nat.le_refl _) (.cells #[.int .i64 0, .string ⟨#[]⟩, .bool false, .int .u64 0, .int .u64 0, .int .i64 0, .int .i64 0, .int .i64 0] 230))
  have hlt := lt_of_block hr
  clear hr hm
  go_enter Tryz.func140, Tryz.ntmps140
  go_wp2_with fail
  generalize World.alloc w _ = W0 at *
  refine hc.mono ?_
  rintro e w1 ⟨rfl, nd, rfl⟩
  have hr1 : (W0.drewN nd).heap[w.heap.size]? = some (.cells #[.int .i64 0, .string ⟨#[]⟩, .bool false, .int .u64 0, .int .u64 0, .int .i64 0, .int .i64 0, .int .i64 0] 230 (0, 0)) := HR.out
  have HR1 := Lib.hid hr1
  have HB1 : Hid (Below w.heap.size w (W0.drewN nd)) := Lib.hid ⟨HB.out.os, HB.out.tape, HB.out.output, HB.out.size, HB.out.block⟩
  have hlt1 : w.heap.size < (W0.drewN nd).heap.size := hlt
  generalize W0.drewN nd = W1 at *
  clear hc hr1 HR HB hlt
  go_wp2_with fail
  refine (readWhat_star W1).mono ?_
  rintro e W2 ⟨rfl, hb2⟩
  have HB2 := Lib.hid (HB1.out.trans (hb2.mono HB1.out.size))
  have HR2 := Lib.hid ((hb2.block _ hlt1).trans HR1.out)
  have hlt2 : w.heap.size < W2.heap.size := Nat.lt_of_lt_of_le hlt1 hb2.size
  clear hb2 HB1 HR1 hlt1
  have hq := heap_alloc_new W2 whatBlk
  have hlq : W2.heap.size < (W2.alloc whatBlk).heap.size := by simp
  have HBQ := Lib.hid (below_alloc1 W2 whatBlk)
  obtain ⟨y0, y1, y2, y3, y4, y5⟩ := sixC hq
  have HQ := Lib.hid hq
  unfold whatBlk at y0 y1 y2 y3 y4 y5 hlq
  clear hq
  go_wp2_with fail
  generalize hWQ : World.alloc W2 _ = WQ at y0 y1 y2 y3 y4 y5 hlq ⊢
  have HBW : Hid (Below W2.heap.size W2 WQ) := Lib.hid (by rw [← hWQ]; exact HBQ.out)
  clear hWQ HBQ HQ
  go_cut [9] from 26 (fun v9 wc => R9 W2 v9 wc)
  case first =>
    go_region_held3 (fun w' => w'.cell? ⟨W2.heap.size, 0, none⟩ = some (.int .i64 1) ∧ w'.cell? ⟨W2.heap.size, 1, none⟩ = some (.string ⟨#[]⟩) ∧ w'.cell? ⟨W2.heap.size, 2, none⟩ = some (.bool false) ∧ w'.cell? ⟨W2.heap.size, 3, none⟩ = some (.int .u64 0) ∧ w'.cell? ⟨W2.heap.size, 4, none⟩ = some (.int .u64 0) ∧ w'.cell? ⟨W2.heap.size, 5, none⟩ = some (.int .i64 0))
      ((repeat' apply And.intro) <;> (first | (go_simp; done) | with_reducible assumption))
      ((go_at_call 149; refine (allPorts_any _).mono ?_; rintro e w1 ⟨rfl, hb1⟩; have y0 : w1.cell? ⟨W2.heap.size, 0, none⟩ = some (.int .i64 1) := (hb1.cell (p := ⟨W2.heap.size, 0, none⟩) (by (try simp); omega)).trans (by go_simp); have y1 : w1.cell? ⟨W2.heap.size, 1, none⟩ = some (.string ⟨#[]⟩) := (hb1.cell (p := ⟨W2.heap.size, 1, none⟩) (by (try simp); omega)).trans (by go_simp); have y2 : w1.cell? ⟨W2.heap.size, 2, none⟩ = some (.bool false) := (hb1.cell (p := ⟨W2.heap.size, 2, none⟩) (by (try simp); omega)).trans (by go_simp); have y3 : w1.cell? ⟨W2.heap.size, 3, none⟩ = some (.int .u64 0) := (hb1.cell (p := ⟨W2.heap.size, 3, none⟩) (by (try simp); omega)).trans (by go_simp); have y4 : w1.cell? ⟨W2.heap.size, 4, none⟩ = some (.int .u64 0) := (hb1.cell (p := ⟨W2.heap.size, 4, none⟩) (by (try simp); omega)).trans (by go_simp); have y5 : w1.cell? ⟨W2.heap.size, 5, none⟩ = some (.int .i64 0) := (hb1.cell (p := ⟨W2.heap.size, 5, none⟩) (by (try simp); omega)).trans (by go_simp); have lq1 : W2.heap.size < w1.heap.size := (by have := hb1.size; (try simp at this); omega); (try have HZ : Hid (w1.heap[WQ.heap.size]? = some (.cells #[.int .i64 0, .string ⟨#[]⟩, .bool false, .int .u64 0, .int .u64 0, .int .i64 0, .int .i64 0, .int .i64 0] 230 (0, 0))) := Lib.hid ((hb1.block WQ.heap.size (by simp)).trans (heap_alloc_new WQ (.cells #[.int .i64 0, .string ⟨#[]⟩, .bool false, .int .u64 0, .int .u64 0, .int .i64 0, .int .i64 0, .int .i64 0] 230)))); (try have z0 := (eightC HZ.out).1); (try have z1 := (eightC HZ.out).2.1); (try have z2 := (eightC HZ.out).2.2.1); (try have z3 := (eightC HZ.out).2.2.2.1); (try have z4 := (eightC HZ.out).2.2.2.2.1); (try have z5 := (eightC HZ.out).2.2.2.2.2.1); (try have z6 := (eightC HZ.out).2.2.2.2.2.2.1); (try have z7 := (eightC HZ.out).2.2.2.2.2.2.2); (try have q0 := eightF HZ.out 0); (try have q1 := eightF HZ.out 1); (try have q2 := eightF HZ.out 2); (try have q3 := eightF HZ.out 3); (try have q4 := eightF HZ.out 4); (try have q5 := eightF HZ.out 5); (try have q6 := eightF HZ.out 6); (try have q7 := eightF HZ.out 7); (try have lz := lt_of_block HZ.out)))
    all_goals (go_wp2_with fail; go_meet)
    all_goals clear y0 y1 y2 y3 y4 y5
    all_goals have hs1 := hb1.size
    all_goals have hb0 : Below W2.heap.size W2 w1 := (by
      first
        | exact HBW.out.trans (hb1.mono HBW.out.size)
        | exact HBW.out.drew.trans (hb1.mono HBW.out.size)
        | exact (HBW.out.alloc HBW.out.size _).trans (hb1.mono (by have := HBW.out.size; simp; omega))
        | exact (HBW.out.drew.alloc HBW.out.size _).trans (hb1.mono (by have := HBW.out.size; simp; omega))
        | exact (HBW.out.alloc HBW.out.size _).drew.trans (hb1.mono (by have := HBW.out.size; simp; omega)))
    all_goals first
      | (have hr := ((((((((Re.refl HZ.out).set 0 (.int .i64 1)).set 1 (.string ⟨#[]⟩)).set 2 (.bool false)).set 3 (.int .u64 0)).set 4 (.int .u64 0)).set 5 (.int .i64 0)).set 6 (.int .i64 0)).set 7 (.int .i64 65535)
         generalize hW : World.setCell _ _ _ = W9
         rw [hW] at hr
         clear hW
         exact ⟨WQ.heap.size, rfl, ⟨by simpa using hr.blk, HBW.out.size⟩, hr.below hb0 HBW.out.size⟩)
      | (generalize hW : World.alloc _ _ = W9
         have hz := heap_alloc_new w1 (.cells #[.int .i64 1, .string ⟨#[]⟩, .bool false, .int .u64 0, .int .u64 0, .int .i64 0, .int .i64 0, .int .i64 65535] 230)
         have hb9 := hb0.alloc (show W2.heap.size ≤ w1.heap.size by have := HBW.out.size; (try simp at hs1); omega) (.cells #[.int .i64 1, .string ⟨#[]⟩, .bool false, .int .u64 0, .int .u64 0, .int .i64 0, .int .i64 0, .int .i64 65535] 230)
         rw [hW] at hz hb9
         exact ⟨w1.heap.size, rfl, ⟨hz, by have := HBW.out.size; (try simp at hs1); omega⟩, hb9⟩)
  case rest =>
    obtain ⟨b9, rfl, ⟨h9, hge⟩, hbc⟩ := hcut
    obtain ⟨t0, t1, t2, t3, t4, t5, t6, t7⟩ := eightC h9
    have HB9 := Lib.hid (HB2.out.trans (hbc.mono HB2.out.size))
    have hr2 := (hbc.block _ hlt2).trans HR2.out
    have HR9 := Lib.hid hr2
    have l9 := lt_of_block h9
    obtain ⟨r0, r1, r2, r3, r4, r5, r6, r7⟩ := eightC hr2
    have f0 := eightF hr2 0
    have f1 := eightF hr2 1
    have f2 := eightF hr2 2
    have f3 := eightF hr2 3
    have f4 := eightF hr2 4
    have f5 := eightF hr2 5
    have f6 := eightF hr2 6
    have f7 := eightF hr2 7
    clear h9 hbc HB2 HR2 HBW hr2
    go_wp2_with fail
    clear r0 r1 r2 r3 r4 r5 r6 r7 t0 t1 t2 t3 t4 t5 t6 t7 f0 f1 f2 f3 f4 f5 f6 f7
    have hr := ((((((((Re.refl HR9.out).set 0 (.int .i64 1)).set 1 (.string ⟨#[]⟩)).set 2 (.bool false)).set 3 (.int .u64 0)).set 4 (.int .u64 0)).set 5 (.int .i64 0)).set 6 (.int .i64 0)).set 7 (.int .i64 65535)
    have hbr := hr.below HB9.out (Nat.le_refl _)
    generalize hW : World.setCell _ _ _ = W9
    rw [hW] at hr hbr
    clear hW
    have hbk : W9.heap[w.heap.size]? = some (.cells #[.int .i64 1, .string ⟨#[]⟩, .bool false, .int .u64 0, .int .u64 0, .int .i64 0, .int .i64 0, .int .i64 65535] 230 (0, 0)) := by simpa using hr.blk
    obtain ⟨y0, y1, y2, y3, y4, y5, y6, y7⟩ := eightC hbk
    refine bodyPost_ret (v := .tuple #[.agg #[.int .i64 1, .string ⟨#[]⟩, .bool false, .int .u64 0, .int .u64 0, .int .i64 0, .int .i64 0, .int .i64 65535], .bool true]) (by simp [results, Tryz.results140, go_sem, y0, y1, y2, y3, y4, y5, y6, y7]) rfl ⟨rfl, hbr⟩
end Go.Proofs.YtpbcbgoenoolfaaGreatDoor
