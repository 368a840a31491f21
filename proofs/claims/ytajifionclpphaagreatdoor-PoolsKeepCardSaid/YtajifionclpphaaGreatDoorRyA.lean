/- lanekeep2's ready(): filter.Sum, view.AllPorts, addr.Text at what it is asked for. -/
import Derived.Test.YtajifionclpphaaGreatDoorAdR
import Derived.Test.YtajifionclpphaaGreatDoorKey2
import Derived.Test.YtajifionclpphaaGreatDoorShelf
namespace Go.Proofs.YtajifionclpphaaGreatDoor
open Go.RowKit Go.Hw Go.Shelf

set_option maxRecDepth 100000 in
set_option maxHeartbeats 1000000 in
theorem allPorts_any (w : World) : Calls Tryz.prog 203 #[] w fun e w' => e = .returned (.agg #[.int .i64 0, .int .i64 65535]) ∧ Below w.heap.size w w' := by
  have hr := heap_alloc_new w (.cells #[.int .i64 0, .int .i64 65535] 241)
  have y0 := cell_of hr 0
  have y1 := cell_of hr 1
  simp only [List.getElem?_toArray, List.getElem?_cons_zero, List.getElem?_cons_succ] at y0 y1
  have HB := Lib.hid ((Below.refl w.heap.size w).alloc (Nat.le_refl _) (.cells #[.int .i64 0, .int .i64 65535] 241))
  clear hr
  go_enter Tryz.func203, Tryz.ntmps203
  go_wp2_with fail
  refine bodyPost_ret (v := .agg #[.int .i64 0, .int .i64 65535]) (by simp [results, Tryz.results203, go_sem, y0, y1]) rfl ⟨rfl, HB.out⟩
set_option maxRecDepth 100000 in
set_option maxHeartbeats 1000000 in
theorem sumF_any (B : Nat) (w : World) (h : w.heap[B]? = some (.cells #[.int .u8 0, .int .u8 1] 5 (0, 0))) :
    Calls Tryz.prog 48 #[.slice (some ⟨B, 0, none⟩) 2 2] w fun e w' => e = .returned (.int .i64 65534) ∧ Below w.heap.size w w' := by
  have c0 : w.cell? ⟨B, 0, none⟩ = some (.int .u8 0) := by simp [World.cell?, h]
  have c1 : w.cell? ⟨B, 1, none⟩ = some (.int .u8 1) := by simp [World.cell?, h]
  clear h
  go_enter Tryz.func48, Tryz.ntmps48
  go_wp2_with fail
  refine wp_loop_rounds 3 ?_
  rw [rounds_succ]
  go_wp2_with fail
  rw [rounds_succ]
  go_wp2_with fail
  rw [rounds_succ]
  go_wp2_with fail
  refine wp_loop_rounds 1 ?_
  rw [rounds_succ]
  go_wp2_with fail
  go_ret
  exact ⟨rfl, Below.refl _ _⟩

def digS (d : Nat) : ByteArray := ⟨(Lib.decDigits d).toArray⟩
set_option maxRecDepth 100000 in
set_option maxHeartbeats 1000000 in
theorem fmt_any (d : Nat) (hd : d < 10) (w : World) : Calls Tryz.prog 138 #[.int .u64 d, .int .i64 10] w fun e w' => e = .returned (.string (digS d)) ∧ w = w' := by
  have hs := Tryz.internal_strconv_small d (by omega) w
  have s0 : IntKind.i64.wrap (d : Int) = (d : Int) := IntWalk.i64_in _ (by omega)
  have hin : Calls Tryz.prog 185 #[.int .u64 d, .int .i64 10] w fun e w' => e = .returned (.string (digS d)) ∧ w = w' := by
    go_enter Tryz.func185, Tryz.ntmps185
    go_wp2_with fail
    refine hs.mono ?_
    rintro e w1 ⟨rfl, rfl⟩
    go_wp2_with fail
    go_ret
    exact ⟨rfl, rfl⟩
  clear hs
  go_enter Tryz.func138, Tryz.ntmps138
  go_wp2_with fail
  refine hin.mono ?_
  rintro e w1 ⟨rfl, rfl⟩
  go_wp2_with fail
  go_ret
  exact ⟨rfl, rfl⟩
theorem Tryz.infoStr : (Tryz.prog.info? 9).map (fun i => (i.zero, i.size, i.bytes)) = some (some (.string ⟨#[]⟩), 1, 16) := by kernel_rfl
theorem one_dot : Lib.join ([digS 0, digS 0, digS 0, digS 1].map (·.data.toList)) (⟨#[46]⟩ : ByteArray).data.toList = [48, 46, 48, 46, 48, 46, 49] := by first | kernel_rfl | (simp [digS, Lib.decDigits, Lib.join]; done) | rfl
set_option maxRecDepth 100000 in
set_option maxHeartbeats 4000000 in
theorem textOf_one (w : World) : Calls Tryz.prog 88 #[.agg #[.bool false, .int .u64 0, .int .u64 1]] w fun e w' => e = .returned (.string ⟨#[48, 46, 48, 46, 48, 46, 49]⟩) ∧ Below w.heap.size w w' := by
  obtain ⟨i0, hi, hz0, hz1, hz2⟩ := info_parts Tryz.infoStr
  have hr := heap_alloc_new w (.cells #[.bool false, .int .u64 0, .int .u64 1] 30)
  have hw0 : (w.alloc (.cells #[.bool false, .int .u64 0, .int .u64 1] 30)).heap.size = w.heap.size + 1 := by simp
  have HB0 := Lib.hid ((Below.refl w.heap.size w).alloc (Nat.le_refl _) (.cells #[.bool false, .int .u64 0, .int .u64 1] 30))
  have y0 := cell_of hr 0
  have y2 := cell_of hr 2
  simp only [List.getElem?_toArray, List.getElem?_cons_zero, List.getElem?_cons_succ] at y0 y2
  have HR0 := Lib.hid hr
  have HOW := Lib.hid (World.ownsRow_nil (w.alloc (.cells #[.bool false, .int .u64 0, .int .u64 1] 30)) (w.heap.size + 1) 9 1)
  clear hr
  go_enter Tryz.func88, Tryz.ntmps88
  go_wp2_with fail
  generalize World.alloc w _ = W0 at *
  have HS0 := Lib.hid (show w.heap.size + 1 ≤ W0.heap.size by omega)
  clear hw0
  refine wp_loop_rounds 5 ?_

  rw [rounds_succ]
  go_wp2_with fail
  refine (fmt_any 0 (by omega) W0).mono ?_
  rintro e w' ⟨rfl, rfl⟩
  clear y2
  go_wp2_with (at_builtin; refine wpList_append_own _ rfl (.tmp 17) (.tmp 26) 99 rfl (w.heap.size + 1) 9 i0 (.string ⟨#[]⟩) 1 16 Tryz.underlying99 hi hz0 hz1 hz2 rfl (by decide) _ _ _ rfl (HOW.out.alloc _) ⟨W0.heap.size, 0, none⟩ 1 1 [.string (digS 0)] rfl rfl ?a01 ?a02 ?a03 ?a04 ?a05 ?_)
  case a01 => exact cells_new W0 [.string (digS 0)] _
  case a02 => simp [Value.oneCell']
  case a03 => unfold maxLen; omega
  case a04 => omega
  case a05 => have := HS0.out; simp; omega
  intro v1 W1 ho hg _
  have hr1 : W1.heap[w.heap.size]? = some (.cells #[.bool false, .int .u64 0, .int .u64 1] 30 (0, 0)) := (hg.block _ (by have := HS0.out; simp; omega) (fun e => by have := HOW.out.lt _ e.symm; omega)).trans ((heap_alloc_old _ _ (by have := HS0.out; omega)).trans HR0.out)
  have HS1 := Lib.hid (show w.heap.size + 1 ≤ W1.heap.size by have := HS0.out; have h2 := hg.size; simp at h2; omega)
  have HBn := Lib.hid ((HB0.out.alloc (by have := HS0.out; omega) (.cells #[.string (digS 0)] 9)).grown hg (by have := HS0.out; simp; omega) (fun j hj => by have := HOW.out.lt _ hj; omega))
  have HOn := Lib.hid ho
  have y2 := cell_of hr1 2
  simp only [List.getElem?_toArray, List.getElem?_cons_zero, List.getElem?_cons_succ] at y2
  have HRn := Lib.hid hr1
  clear ho hg hr1 HOW HB0 HR0 HS0
  have HOW := HOn
  have HB0 := HBn
  have HR0 := HRn
  have HS0 := HS1
  clear HOn HBn HRn HS1
  go_wp2_with fail

  rw [rounds_succ]
  go_wp2_with fail
  refine (fmt_any 0 (by omega) W1).mono ?_
  rintro e w' ⟨rfl, rfl⟩
  clear y2
  go_wp2_with (at_builtin; refine wpList_append_own _ rfl (.tmp 17) (.tmp 26) 99 rfl (w.heap.size + 1) 9 i0 (.string ⟨#[]⟩) 1 16 Tryz.underlying99 hi hz0 hz1 hz2 rfl (by decide) _ _ _ rfl (HOW.out.alloc _) ⟨W1.heap.size, 0, none⟩ 1 1 [.string (digS 0)] rfl rfl ?a11 ?a12 ?a13 ?a14 ?a15 ?_)
  case a11 => exact cells_new W1 [.string (digS 0)] _
  case a12 => simp [Value.oneCell']
  case a13 => unfold maxLen; omega
  case a14 => omega
  case a15 => have := HS0.out; simp; omega
  intro v2 W2 ho hg _
  have hr2 : W2.heap[w.heap.size]? = some (.cells #[.bool false, .int .u64 0, .int .u64 1] 30 (0, 0)) := (hg.block _ (by have := HS0.out; simp; omega) (fun e => by have := HOW.out.lt _ e.symm; omega)).trans ((heap_alloc_old _ _ (by have := HS0.out; omega)).trans HR0.out)
  have HS2 := Lib.hid (show w.heap.size + 1 ≤ W2.heap.size by have := HS0.out; have h2 := hg.size; simp at h2; omega)
  have HBn := Lib.hid ((HB0.out.alloc (by have := HS0.out; omega) (.cells #[.string (digS 0)] 9)).grown hg (by have := HS0.out; simp; omega) (fun j hj => by have := HOW.out.lt _ hj; omega))
  have HOn := Lib.hid ho
  have y2 := cell_of hr2 2
  simp only [List.getElem?_toArray, List.getElem?_cons_zero, List.getElem?_cons_succ] at y2
  have HRn := Lib.hid hr2
  clear ho hg hr2 HOW HB0 HR0 HS0
  have HOW := HOn
  have HB0 := HBn
  have HR0 := HRn
  have HS0 := HS2
  clear HOn HBn HRn HS2
  go_wp2_with fail

  rw [rounds_succ]
  go_wp2_with fail
  refine (fmt_any 0 (by omega) W2).mono ?_
  rintro e w' ⟨rfl, rfl⟩
  clear y2
  go_wp2_with (at_builtin; refine wpList_append_own _ rfl (.tmp 17) (.tmp 26) 99 rfl (w.heap.size + 1) 9 i0 (.string ⟨#[]⟩) 1 16 Tryz.underlying99 hi hz0 hz1 hz2 rfl (by decide) _ _ _ rfl (HOW.out.alloc _) ⟨W2.heap.size, 0, none⟩ 1 1 [.string (digS 0)] rfl rfl ?a21 ?a22 ?a23 ?a24 ?a25 ?_)
  case a21 => exact cells_new W2 [.string (digS 0)] _
  case a22 => simp [Value.oneCell']
  case a23 => unfold maxLen; omega
  case a24 => omega
  case a25 => have := HS0.out; simp; omega
  intro v3 W3 ho hg _
  have hr3 : W3.heap[w.heap.size]? = some (.cells #[.bool false, .int .u64 0, .int .u64 1] 30 (0, 0)) := (hg.block _ (by have := HS0.out; simp; omega) (fun e => by have := HOW.out.lt _ e.symm; omega)).trans ((heap_alloc_old _ _ (by have := HS0.out; omega)).trans HR0.out)
  have HS3 := Lib.hid (show w.heap.size + 1 ≤ W3.heap.size by have := HS0.out; have h2 := hg.size; simp at h2; omega)
  have HBn := Lib.hid ((HB0.out.alloc (by have := HS0.out; omega) (.cells #[.string (digS 0)] 9)).grown hg (by have := HS0.out; simp; omega) (fun j hj => by have := HOW.out.lt _ hj; omega))
  have HOn := Lib.hid ho
  have y2 := cell_of hr3 2
  simp only [List.getElem?_toArray, List.getElem?_cons_zero, List.getElem?_cons_succ] at y2
  have HRn := Lib.hid hr3
  clear ho hg hr3 HOW HB0 HR0 HS0
  have HOW := HOn
  have HB0 := HBn
  have HR0 := HRn
  have HS0 := HS3
  clear HOn HBn HRn HS3
  go_wp2_with fail

  rw [rounds_succ]
  go_wp2_with fail
  refine (fmt_any 1 (by omega) W3).mono ?_
  rintro e w' ⟨rfl, rfl⟩
  clear y2
  go_wp2_with (at_builtin; refine wpList_append_own _ rfl (.tmp 17) (.tmp 26) 99 rfl (w.heap.size + 1) 9 i0 (.string ⟨#[]⟩) 1 16 Tryz.underlying99 hi hz0 hz1 hz2 rfl (by decide) _ _ _ rfl (HOW.out.alloc _) ⟨W3.heap.size, 0, none⟩ 1 1 [.string (digS 1)] rfl rfl ?a31 ?a32 ?a33 ?a34 ?a35 ?_)
  case a31 => exact cells_new W3 [.string (digS 1)] _
  case a32 => simp [Value.oneCell']
  case a33 => unfold maxLen; omega
  case a34 => omega
  case a35 => have := HS0.out; simp; omega
  intro v4 W4 ho hg _
  have hr4 : W4.heap[w.heap.size]? = some (.cells #[.bool false, .int .u64 0, .int .u64 1] 30 (0, 0)) := (hg.block _ (by have := HS0.out; simp; omega) (fun e => by have := HOW.out.lt _ e.symm; omega)).trans ((heap_alloc_old _ _ (by have := HS0.out; omega)).trans HR0.out)
  have HS4 := Lib.hid (show w.heap.size + 1 ≤ W4.heap.size by have := HS0.out; have h2 := hg.size; simp at h2; omega)
  have HBn := Lib.hid ((HB0.out.alloc (by have := HS0.out; omega) (.cells #[.string (digS 1)] 9)).grown hg (by have := HS0.out; simp; omega) (fun j hj => by have := HOW.out.lt _ hj; omega))
  have HOn := Lib.hid ho
  have y2 := cell_of hr4 2
  simp only [List.getElem?_toArray, List.getElem?_cons_zero, List.getElem?_cons_succ] at y2
  have HRn := Lib.hid hr4
  clear ho hg hr4 HOW HB0 HR0 HS0
  have HOW := HOn
  have HB0 := HBn
  have HR0 := HRn
  have HS0 := HS4
  clear HOn HBn HRn HS4
  go_wp2_with fail

  rw [rounds_succ]
  go_wp2_with fail
  have hO := HOW.out
  rcases hO.2 with ⟨_, h2⟩ | ⟨g, cap, cur, h1, _, _, h4, _⟩
  · simp at h2
  subst h1
  have hc : ∀ (j : Nat) x, ([digS 0, digS 0, digS 0, digS 1] : List ByteArray)[j]? = some x → W4.cell? ⟨g, 0 + j, none⟩ = some (.string x) := by
    intro j x hx
    have hadd : (⟨g, 0, none⟩ : Addr).add j = ⟨g, 0 + j, none⟩ := by unfold Addr.add; split <;> simp_all
    have := hO.cells (g := g) rfl j (.string x) (by
      have : ([digS 0, digS 0, digS 0, digS 1] : List ByteArray).map Value.string = [.string (digS 0), .string (digS 0), .string (digS 0), .string (digS 1)] := rfl
      rw [← this, List.getElem?_map, hx]; rfl)
    rwa [hadd] at this
  have hj := Tryz.strings_Join g 0 cap [digS 0, digS 0, digS 0, digS 1] ⟨#[46]⟩ W4 hc ((hO.lt g rfl).2) (by simp) (by simpa using h4) (by rw [one_dot]; simp)
  rw [one_dot] at hj
  have HBX := Lib.hid (HB0.out)
  clear hO hc y2 HOW HR0
  go_wp2_with fail

  refine hj.mono ?_
  rintro e W5 ⟨rfl, hb5⟩
  have HB5 := Lib.hid (HBX.out.trans (hb5.mono HBX.out.size))
  clear hj hb5
  go_wp2_with fail
  go_ret
  exact ⟨rfl, HB5.out⟩
set_option maxRecDepth 100000 in
set_option maxHeartbeats 1000000 in
theorem checkAddr_one (w : World) : Calls Tryz.prog 34 #[.agg #[.bool false, .int .u64 0, .int .u64 1]] w fun e w' => e = .returned (.int .i64 0) ∧ Below w.heap.size w w' := by
  have HB := Lib.hid ((Below.refl w.heap.size w).alloc (Nat.le_refl _) (.cells #[.bool false, .int .u64 0, .int .u64 1] 30))
  go_enter Tryz.func34, Tryz.ntmps34
  go_wp2_with fail
  go_ret
  exact ⟨rfl, HB.out⟩
set_option maxRecDepth 100000 in
set_option maxHeartbeats 1000000 in
theorem text_one (w : World) : Calls Tryz.prog 44 #[.agg #[.bool false, .int .u64 0, .int .u64 1]] w fun e w' => e = .returned (.tuple #[.string ⟨#[48, 46, 48, 46, 48, 46, 49]⟩, .int .i64 0]) ∧ Below w.heap.size w w' := by
  have hr := heap_alloc_new w (.cells #[.bool false, .int .u64 0, .int .u64 1] 30)
  have HB := Lib.hid ((Below.refl w.heap.size w).alloc (Nat.le_refl _) (.cells #[.bool false, .int .u64 0, .int .u64 1] 30))
  have hlt : w.heap.size < (w.alloc (.cells #[.bool false, .int .u64 0, .int .u64 1] 30)).heap.size := by simp
  obtain ⟨y0, y1, y2, -⟩ := res3 hr
  have HR := Lib.hid hr
  clear hr
  go_enter Tryz.func44, Tryz.ntmps44
  go_wp2_with fail
  generalize World.alloc w _ = W0 at *
  refine (checkAddr_one W0).mono ?_
  rintro e W1 ⟨rfl, hb1⟩
  have hr1 := (hb1.block _ hlt).trans HR.out
  have HB1 := Lib.hid (HB.out.trans (hb1.mono HB.out.size))
  obtain ⟨x0, x1, x2, -⟩ := res3 hr1
  clear hb1 hr1 y0 y1 y2 HB HR
  go_wp2_with fail
  refine (textOf_one W1).mono ?_
  rintro e W2 ⟨rfl, hb2⟩
  have HB2 := Lib.hid (HB1.out.trans (hb2.mono HB1.out.size))
  clear hb2 x0 x1 x2 HB1
  go_wp2_with fail
  go_ret2
  exact ⟨rfl, HB2.out⟩
end Go.Proofs.YtajifionclpphaaGreatDoor
