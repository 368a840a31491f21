/- TurnsFillTime: the walk. -/
import Derived.Test.YtollmagiifkicaaGreatDoorOfC
import Derived.Test.YtollmagiifkicaaGreatDoorReady
namespace Go.Proofs.YtollmagiifkicaaGreatDoor
open Go.RowKit Go.Hw Go.Shelf

/-- A block that was made behind a world. -/
def Blk (W0 w : World) (B : Nat) (o : Obj) : Prop := W0.heap.size ≤ B ∧ w.heap[B]? = some o
theorem blk_al {W0 w : World} {B : Nat} {o o' : Obj} (h : Blk W0 w B o) : Blk W0 (w.alloc o') B o := ⟨h.1, (heap_alloc_old _ _ (lt_of_block h.2)).trans h.2⟩
theorem blk_dr {W0 w : World} {B : Nat} {o : Obj} (h : Blk W0 w B o) : Blk W0 w.drew B o := h
theorem blk_call {W0 w w' : World} {b B : Nat} {o : Obj} (hg : w.grownBy w' (some b)) (hb : b < W0.heap.size) (h : Blk W0 w B o) : Blk W0 w' B o :=
  ⟨h.1, (hg.block B (lt_of_block h.2) (fun e => by injection e with e; have := h.1; omega)).trans h.2⟩
theorem blk_new {W0 w : World} {cs : Array Value} {T : TypeId} {f : Nat × Nat} (hs : W0.heap.size ≤ w.heap.size) : Blk W0 (w.alloc (.cells cs T f)) w.heap.size (.cells cs T f) := ⟨hs, heap_alloc_new _ _⟩
theorem blk_new2 {W0 w : World} {o : Obj} {cs : Array Value} {T : TypeId} {f : Nat × Nat} (hs : W0.heap.size ≤ w.heap.size) : Blk W0 ((w.alloc o).alloc (.cells cs T f)) (w.heap.size + 1) (.cells cs T f) := ⟨by omega, by
  have := heap_alloc_new (w.alloc o) (.cells cs T f)
  simp only [Re_size] at this
  exact this⟩
/-- Behind the draw of a prefix and of a window. -/
def Drawn (W0 : World) (b : Nat) (p6 : Bool) (ph pl pb wa wb : Int) (v6 v7 : Value) (wc : World) : Prop :=
  ∃ B6 B7, v6 = .pointer (some ⟨B6, 0, none⟩) ∧ v7 = .pointer (some ⟨B7, 0, none⟩) ∧ wc.heap[B6]? = some (pfBox p6 ph pl pb) ∧ wc.heap[B7]? = some (.cells #[.int .i64 wa, .int .i64 wb] 44 (0, 0)) ∧ W0.heap.size ≤ B6 ∧ W0.heap.size ≤ B7 ∧ W0.grownBy wc (some b)
theorem mk_Drawn {W0 W : World} {b B6 B7 : Nat} {p6 : Bool} {ph pl pb wa wb : Int} (hg : W0.grownBy W (some b)) (h6 : Blk W0 W B6 (.cells #[.bool false, .int .u64 0, .int .u64 0, .int .i64 0] 39 (0, 0))) (h7 : Blk W0 W B7 (.cells #[.int .i64 0, .int .i64 0] 44 (0, 0))) :
    Drawn W0 b p6 ph pl pb wa wb (.pointer (some ⟨B6, 0, none⟩)) (.pointer (some ⟨B7, 0, none⟩)) ((((((W.setCell ⟨B6, 0, none⟩ (.bool p6)).setCell ⟨B6, 1, none⟩ (.int .u64 ph)).setCell ⟨B6, 2, none⟩ (.int .u64 pl)).setCell ⟨B6, 3, none⟩ (.int .i64 pb)).setCell ⟨B7, 0, none⟩ (.int .i64 wa)).setCell ⟨B7, 1, none⟩ (.int .i64 wb)) := by
  have hne : B7 ≠ B6 := fun e => by
    have h1 := h6.2
    rw [← e, h7.2] at h1
    injection h1 with h1
    injection h1 with h1
    simp at h1
  have h4 := re4 (v0 := .bool p6) (v1 := .int .u64 ph) (v2 := .int .u64 pl) (v3 := .int .i64 pb) h6.2 rfl
  generalize (((W.setCell ⟨B6, 0, none⟩ (.bool p6)).setCell ⟨B6, 1, none⟩ (.int .u64 ph)).setCell ⟨B6, 2, none⟩ (.int .u64 pl)).setCell ⟨B6, 3, none⟩ (.int .i64 pb) = W4 at *
  have h2 := re2 (v0 := .int .i64 wa) (v1 := .int .i64 wb) ((h4.oth B7 hne).trans h7.2) rfl
  exact ⟨B6, B7, rfl, rfl, (h2.oth B6 (Ne.symm hne)).trans h4.blk, h2.blk, h6.1, h7.1, h2.grown (h4.grown hg (.inl h6.1)) (.inl h7.1)⟩
theorem mk_DrawnA {W0 W : World} {b : Nat} {p6 : Bool} {ph pl pb wa wb : Int} (hg : W0.grownBy W (some b)) :
    Drawn W0 b p6 ph pl pb wa wb (.pointer (some ⟨W.heap.size, 0, none⟩)) (.pointer (some ⟨W.heap.size + 1, 0, none⟩)) ((W.alloc (.cells #[.bool p6, .int .u64 ph, .int .u64 pl, .int .i64 pb] 39)).alloc (.cells #[.int .i64 wa, .int .i64 wb] 44)) :=
  ⟨_, _, rfl, rfl, (heap_alloc_old _ _ (by simp)).trans (heap_alloc_new W _), (blk_new2 (W0 := W0) hg.size).2, hg.size, Nat.le_succ_of_le hg.size, grown_of_box (grown_of_box hg)⟩
theorem mk_DrawnA' {W0 W : World} {b : Nat} {p6 : Bool} {ph pl pb wa wb : Int} (hg : W0.grownBy W (some b)) :
    Drawn W0 b p6 ph pl pb wa wb (.pointer (some ⟨W.heap.size + 1, 0, none⟩)) (.pointer (some ⟨W.heap.size, 0, none⟩)) ((W.alloc (.cells #[.int .i64 wa, .int .i64 wb] 44)).alloc (.cells #[.bool p6, .int .u64 ph, .int .u64 pl, .int .i64 pb] 39)) :=
  ⟨_, _, rfl, rfl, (blk_new2 (W0 := W0) hg.size).2, (heap_alloc_old _ _ (by simp)).trans (heap_alloc_new W _), Nat.le_succ_of_le hg.size, hg.size, grown_of_box (grown_of_box hg)⟩
theorem mk_DrawnB {W0 W : World} {b B7 : Nat} {p6 : Bool} {ph pl pb wa wb : Int} (hg : W0.grownBy W (some b)) (h7 : Blk W0 W B7 (.cells #[.int .i64 0, .int .i64 0] 44 (0, 0))) :
    Drawn W0 b p6 ph pl pb wa wb (.pointer (some ⟨W.heap.size, 0, none⟩)) (.pointer (some ⟨B7, 0, none⟩)) (((W.setCell ⟨B7, 0, none⟩ (.int .i64 wa)).setCell ⟨B7, 1, none⟩ (.int .i64 wb)).alloc (.cells #[.bool p6, .int .u64 ph, .int .u64 pl, .int .i64 pb] 39)) := by
  have h2 := re2 (v0 := .int .i64 wa) (v1 := .int .i64 wb) h7.2 rfl
  have hs := h2.size
  generalize (W.setCell ⟨B7, 0, none⟩ (.int .i64 wa)).setCell ⟨B7, 1, none⟩ (.int .i64 wb) = W4 at *
  rw [← hs]
  have hl := lt_of_block h2.blk
  have := hg.size
  exact ⟨_, _, rfl, rfl, heap_alloc_new _ _, (heap_alloc_old _ _ hl).trans h2.blk, by omega, h7.1, grown_of_box (h2.grown hg (.inl h7.1))⟩
theorem mk_DrawnB' {W0 W : World} {b B6 : Nat} {p6 : Bool} {ph pl pb wa wb : Int} (hg : W0.grownBy W (some b)) (h6 : Blk W0 W B6 (.cells #[.bool false, .int .u64 0, .int .u64 0, .int .i64 0] 39 (0, 0))) :
    Drawn W0 b p6 ph pl pb wa wb (.pointer (some ⟨B6, 0, none⟩)) (.pointer (some ⟨W.heap.size, 0, none⟩)) (((((W.setCell ⟨B6, 0, none⟩ (.bool p6)).setCell ⟨B6, 1, none⟩ (.int .u64 ph)).setCell ⟨B6, 2, none⟩ (.int .u64 pl)).setCell ⟨B6, 3, none⟩ (.int .i64 pb)).alloc (.cells #[.int .i64 wa, .int .i64 wb] 44)) := by
  have h4 := re4 (v0 := .bool p6) (v1 := .int .u64 ph) (v2 := .int .u64 pl) (v3 := .int .i64 pb) h6.2 rfl
  have hs := h4.size
  generalize (((W.setCell ⟨B6, 0, none⟩ (.bool p6)).setCell ⟨B6, 1, none⟩ (.int .u64 ph)).setCell ⟨B6, 2, none⟩ (.int .u64 pl)).setCell ⟨B6, 3, none⟩ (.int .i64 pb) = W4 at *
  rw [← hs]
  have hl := lt_of_block h4.blk
  have := hg.size
  exact ⟨_, _, rfl, rfl, (heap_alloc_old _ _ hl).trans h4.blk, heap_alloc_new _ _, h6.1, by omega, grown_of_box (h4.grown hg (.inl h6.1))⟩
theorem Str.below {w w' : World} {b : Nat} {A : Option Addr} {cap : Nat} {l : List Int} {x : Int} (h : Str w b A cap l x) (hb : Below w.heap.size w w') : Str w' b A cap l x := h.grown (grownB hb none) (fun k e => by cases e)
theorem drew_right {w w' : World} {r : Option Nat} (h : w.grownBy w' r) : w.grownBy w'.drew r := ⟨h.os, h.tape, h.output, h.size, h.block⟩
theorem grown_then {w w1 w2 : World} {r : Option Nat} (h : w.grownBy w1 r) (h2 : w1.grownBy w2 r) : w.grownBy w2 r := h.andThen h2 (fun _ h => .inr h)
theorem rts_below {w w' : World} {b : Nat} {base : Nat} {v : Value} {l : List Rt} (h : RtsOwn w base v l) (hg : w.grownBy w' (some b)) (hn : v.ownBlock ≠ some b) : RtsOwn w' base v l := World.ownsRow.kept h hg (.inr hn)

/-- What the loop has summed up. -/
def FillI (w : World) (l : List Tn) (a b : Int) (v10 v67 : Value) (wr : World) : Prop :=
  ∃ k : Nat, k ≤ l.length ∧ v67 = .int .i64 k ∧ v10 = .int .i64 (b - a - inWs l a b l.length + inWs l a b k) ∧ Below w.heap.size w wr

set_option maxRecDepth 100000 in
set_option maxHeartbeats 4000000 in
theorem turnsFill_any (A : Option Addr) (cap : Nat) (l : List Int) (w : World) (hA : ∀ i, i < l.length → ∃ g off, A = some ⟨g, off, none⟩ ∧ g < w.heap.size ∧ w.cell? ⟨g, off + i, none⟩ = some (.int .i64 (l.getD i 0)))
    (hfits : ∀ i, -9223372036854775808 ≤ l.getD i 0 ∧ l.getD i 0 ≤ 9223372036854775807) (hlong : l.length ≤ 17592186044416) :
    Calls Tryz.prog 3 #[.slice A l.length cap] w fun e w' => e = .returned (.bool true) ∧ Below w.heap.size w w' := by
  have hs0 : Str (w.alloc (.cells #[.slice A l.length cap, .int .i64 0] 25)) w.heap.size A cap l 0 := {
    cell := heap_alloc_new w _
    ints := fun i hi => by
      obtain ⟨g, off, h1, h2, h3⟩ := hA i hi
      exact ⟨g, off, h1, h2, by rw [World.cell?_alloc_lt _ _ _ h2]; exact h3⟩
    fits := hfits
    long := hlong
    low := by omega
    high := by omega }
  have hB0 : Below w.heap.size w (w.alloc (.cells #[.slice A l.length cap, .int .i64 0] 25)) := (Below.refl _ _).alloc (Nat.le_refl _) _
  have HS := Lib.hid hs0
  have HB := Lib.hid hB0
  clear hs0 hB0 hA hfits
  go_enter Tryz.func3, Tryz.ntmps3
  go_wp2_with fail
  generalize hW : World.alloc _ _ = W1 at HS HB ⊢
  clear hW
  have hlt1 := HS.out.lt
  refine (routers_any w.heap.size A cap l 0 W1 HS.out (by omega)).mono ?_
  rintro e W2 ⟨v, rfl, xs, x2, ho2, hs2, hg2, hxl, hxb, hxs⟩
  have HB2 := Lib.hid (HB.out.grown hg2 HB.out.size (fun j e => by injection e with e; omega))
  have hnb := own_ne ho2 hlt1
  have HXT := Lib.hid hxs
  clear HS HB hg2 hxs
  go_wp2_with fail
  refine (range_any w.heap.size A cap l x2 0 8 W2 hs2 (by omega) (by omega) (by omega) (by omega) (by omega)).mono ?_
  rintro e W3 ⟨rfl, hs3, hg3⟩
  have d1 := draw_low l x2 (8 - 0 + 1) (by omega)
  have d2 := draw_high l x2 (8 - 0 + 1) (by omega)
  generalize drawOf l x2 (8 - 0 + 1) = d at *
  obtain ⟨m, rfl⟩ := Int.eq_ofNat_of_zero_le d1
  have HB3 := Lib.hid (HB2.out.grown hg3 HB2.out.size (fun j e => by injection e with e; omega))
  have ho3 := rts_below ho2 hg3 hnb
  have hlt3 := hs3.lt
  rw [show (0 : Int) + (m : Int) = (m : Nat) from by omega]
  clear hs2 hg3 ho2 HB2 d1
  go_wp2_with fail
  refine (healthLog_any w.heap.size A cap l (x2 + 1) W3 hs3 (by omega) m (by omega)).mono ?_
  rintro e W4 ⟨vh, rfl, hs, x4, hoh, hs4, hg4, hhl, hhb, hhs⟩
  have HB4 := Lib.hid (HB3.out.grown hg4 HB3.out.size (fun j e => by injection e with e; omega))
  have ho4 := rts_below ho3 hg4 hnb
  have hnh := own_ne hoh hlt3
  have HHS := Lib.hid (fun i => (show (hs.getD i noHl).node.size ≤ maxLen from by
    by_cases h : i < hs.length
    · rw [List.getD_eq_getElem?_getD, List.getElem?_eq_getElem h]
      have := hhs _ (List.getElem_mem h)
      simp only [Option.getD_some]
      unfold maxLen
      omega
    · rw [List.getD_eq_getElem?_getD, List.getElem?_eq_none (by omega)]
      simp [noHl, maxLen]))
  clear hs3 hg4 ho3 HB3 hhs
  have hR := rts_own_at ho4
  have hH := hls_at hoh
  obtain ⟨AR, cR, rfl, hatR⟩ := hR
  obtain ⟨AH, cH, rfl, hatH⟩ := hH
  have HO4 := Lib.hid ho4
  have HOH := Lib.hid hoh
  have HR4 := Lib.hid hatR
  have HH4 := Lib.hid hatH
  have hlt4 := hs4.lt
  have HS4 := Lib.hid hs4
  clear ho4 hoh hatR hatH hs4
  by_cases h0 : xs.length = 0
  · have e0 : ((xs.length : Int) == 0) = true := by simp [h0]
    clear h0
    go_wp2_with fail
    refine Calls.mono (ready_true W4) ?_
    rintro _ W8 ⟨rfl, hb8⟩
    have HB8 := Lib.hid (HB4.out.trans (hb8.mono HB4.out.size))
    clear hb8
    go_wp2_with fail
    go_ret
    exact ⟨rfl, HB8.out⟩
  have e0 : ((xs.length : Int) == 0) = false := by rw [beq_eq_false_iff_ne]; omega
  go_wp2_with fail
  refine (routersFault_any AR cR xs W4 HR4.out (by omega) HXT.out).mono ?_
  rintro e W5 ⟨rfl, hb5⟩
  have HB5 := Lib.hid (HB4.out.trans (hb5.mono HB4.out.size))
  have HO5 := Lib.hid (own_below HO4.out hb5 (Nat.le_refl _))
  have HOH5 := Lib.hid (own_below HOH.out hb5 (Nat.le_refl _))
  have HR5 := Lib.hid ((HR4.out.below hb5).wide hb5.size)
  have HH5 := Lib.hid ((HH4.out.below hb5).wide hb5.size)
  have HS5 := Lib.hid (HS4.out.below hb5)
  have hlt5 := HS5.out.lt
  clear hb5 HB4 HO4 HOH HR4 HH4 HS4 hlt4
  by_cases hf : rtFault xs = 0
  rotate_left
  · have hcc : (rtFault xs != 0) = true := by simpa using hf
    clear hf
    go_wp2_with fail
    refine Calls.mono (ready_true W5) ?_
    rintro _ W8 ⟨rfl, hb8⟩
    have HB8 := Lib.hid (HB5.out.trans (hb8.mono HB5.out.size))
    clear hb8
    go_wp2_with fail
    go_ret
    exact ⟨rfl, HB8.out⟩
  have HF := Lib.hid hf
  rw [hf]
  clear hf
  go_wp2_with fail
  refine (healthFault_any AH cH hs W5 HH5.out (by omega) HHS.out).mono ?_
  rintro e W6 ⟨rfl, hb6⟩
  have HB6 := Lib.hid (HB5.out.trans (hb6.mono HB5.out.size))
  have HO6 := Lib.hid (own_below HO5.out hb6 (Nat.le_refl _))
  have HOH6 := Lib.hid (own_below HOH5.out hb6 (Nat.le_refl _))
  have HR6 := Lib.hid ((HR5.out.below hb6).wide hb6.size)
  have HS6 := Lib.hid (HS5.out.below hb6)
  have hlt6 := HS6.out.lt
  clear hb6 HB5 HO5 HOH5 HR5 HH5 HS5 hlt5
  by_cases hf : hlFault hs = 0
  rotate_left
  · have hcc : (hlFault hs != 0) = true := by simpa using hf
    clear hf
    go_wp2_with fail
    refine Calls.mono (ready_true W6) ?_
    rintro _ W8 ⟨rfl, hb8⟩
    have HB8 := Lib.hid (HB6.out.trans (hb8.mono HB6.out.size))
    clear hb8
    go_wp2_with fail
    go_ret
    exact ⟨rfl, HB8.out⟩
  have FF : LogFine xs hs := ⟨by omega, HXT.out, HF.out, by omega, HHS.out, hf⟩
  have HFF := Lib.hid FF
  rw [hf]
  clear hf FF HF HHS
  -- the prefix and the window
  have hlo := HS6.out.low
  have hn1 := fun W (hS : Str W w.heap.size A cap l x4) => next_any w.heap.size A cap l x4 (xs.length : Int) W hS (by omega) (by omega) (by omega)
  have hn2 := fun W (hS : Str W w.heap.size A cap l (x4 + 1)) => next_any w.heap.size A cap l (x4 + 1) 50 W hS (by omega) (by omega) (by omega)
  have hn3 := fun W (hS : Str W w.heap.size A cap l (x4 + 1 + 1)) => range_any w.heap.size A cap l (x4 + 1 + 1) 50 300 W hS (by omega) (by omega) (by omega) (by omega) (by omega)
  have d1 := draw_low l x4 (xs.length : Int) (by omega)
  have d2 := draw_high l x4 (xs.length : Int) (by omega)
  have d3 := draw_low l (x4 + 1) 50 (by omega)
  have d4 := draw_high l (x4 + 1) 50 (by omega)
  have d5 := draw_low l (x4 + 1 + 1) (300 - 50 + 1) (by omega)
  have d6 := draw_high l (x4 + 1 + 1) (300 - 50 + 1) (by omega)
  generalize drawOf l x4 (xs.length : Int) = dk at *
  generalize drawOf l (x4 + 1) 50 = wa at *
  generalize drawOf l (x4 + 1 + 1) (300 - 50 + 1) = dz at *
  obtain ⟨k, rfl⟩ := Int.eq_ofNat_of_zero_le d1
  have hk : k < xs.length := by omega
  obtain ⟨g, off, rfl, hgl, c0, c1, c2, c3, -, -⟩ := HR6.out k hk
  have hgb : g ≠ w.heap.size := by
    rcases HO6.out.2 with ⟨h1, _⟩ | ⟨g', _, _, h1, h2, _⟩
    · simp at h1
    · simp at h1
      omega
  have hxk := HXT.out _ (List.getElem_mem hk)
  have hxg : xs.getD k noRt = xs[k] := by rw [List.getD_eq_getElem?_getD, List.getElem?_eq_getElem hk]; rfl
  rw [← hxg] at hxk
  have hmem : xs.getD k noRt ∈ xs := by rw [hxg]; exact List.getElem_mem hk
  obtain ⟨own, hown⟩ := own_some hmem
  have hpc := (rt_of (rt_parts HFF.out.rf HFF.out.rl hk)).1
  unfold Rt.pf at hown
  have HOWN := Lib.hid hown
  have HPC := Lib.hid hpc
  have HXK := Lib.hid hxk
  have hgw : w.heap.size < W6.heap.size := hlt6
  clear hxg hmem hown hpc hxk
  generalize xs.getD k noRt = xk at *
  obtain ⟨p6, ph, pl, pb, pn, pw⟩ := xk
  dsimp only at c0 c1 c2 c3 HOWN HPC HXK
  have hsx := HS6
  have hgx : Hid (W6.grownBy W6 (some w.heap.size)) := Lib.hid (World.grownBy.refl _ _)
  have hdk : (k : Int) < (xs.length : Int) := by omega
  clear d1 d2
  go_upto_region 5 with (fail)
  go_cut [6, 7] from 8 (fun v6 v7 wc => Drawn W6 w.heap.size p6 ph pl pb wa (50 + dz) v6 v7 wc)
  case first =>
    go_region_held3 (fun w' => w'.cell? ⟨g, off + k * 6, none⟩ = some (.bool p6) ∧ w'.cell? ⟨g, off + k * 6 + 1, none⟩ = some (.int .u64 ph) ∧ w'.cell? ⟨g, off + k * 6 + 2, none⟩ = some (.int .u64 pl) ∧ w'.cell? ⟨g, off + k * 6 + 3, none⟩ = some (.int .i64 pb))
      (first | with_reducible exact ⟨c0, c1, c2, c3⟩ | ((repeat' apply And.intro) <;> (first | (go_simp; done) | with_reducible assumption)))
      (first
        | (have mk2 := mark1; go_at_call 12; refine (hn2 _ (by (repeat (first | with_reducible exact hsx.out | with_reducible refine Str.dr ?_ | with_reducible refine Str.alloc ?_ _)))).mono ?_; rintro e U2 ⟨rfl, hs', hg'⟩; have c0 : U2.cell? ⟨g, off + k * 6, none⟩ = some (.bool p6) := ((gcell hg').1 _ _ (by first | omega | (simp; omega)) hgb).trans (by first | assumption | (go_simp; done)); have c1 : U2.cell? ⟨g, off + k * 6 + 1, none⟩ = some (.int .u64 ph) := ((gcell hg').1 _ _ (by first | omega | (simp; omega)) hgb).trans (by first | assumption | (go_simp; done)); have c2 : U2.cell? ⟨g, off + k * 6 + 2, none⟩ = some (.int .u64 pl) := ((gcell hg').1 _ _ (by first | omega | (simp; omega)) hgb).trans (by first | assumption | (go_simp; done)); have c3 : U2.cell? ⟨g, off + k * 6 + 3, none⟩ = some (.int .i64 pb) := ((gcell hg').1 _ _ (by first | omega | (simp; omega)) hgb).trans (by first | assumption | (go_simp; done)); have hgl : g < U2.heap.size := (by have := hg'.size; (try simp at this); omega); have hsx := Lib.hid hs'; have hgx : Hid (W6.grownBy U2 (some w.heap.size)) := Lib.hid (grown_then (by (repeat (first | with_reducible exact hgx.out | with_reducible refine drew_right ?_ | with_reducible refine grown_of_box ?_))) hg'); have nc2 : g ≠ U1.heap.size + 1 := (by omega); have nd2 : U1.heap.size + 1 ≠ g := (by omega); have ne2 : g ≠ U1.heap.size := (by omega); have nf2 : U1.heap.size ≠ g := (by omega); have na2 : U1.heap.size ≠ U1.heap.size + 1 := (by omega); have nb2 : U1.heap.size + 1 ≠ U1.heap.size := (by omega); have hsz2 := hg'.size; (try simp at hsz2); (try (focus (refine (fun hq => ?_ : Blk W6 U2 (W6.heap.size) (.cells #[.bool false, .int .u64 0, .int .u64 0, .int .i64 0] 39 (0, 0)) → _) ?_; rotate_left; (focus (refine blk_call hg' hgw ?_; (repeat (first | with_reducible assumption | with_reducible refine blk_dr ?_ | with_reducible exact blk_new (by first | omega | (simp; omega)) | with_reducible exact blk_new2 (by first | omega | (simp; omega)) | with_reducible refine blk_al ?_)); done)); obtain ⟨⟨z0, _, _, _⟩, _, _, _, _⟩ := res4 hq.2; have := lt_of_block hq.2))); (try (focus (refine (fun hq => ?_ : Blk W6 U2 (W6.heap.size) (.cells #[.int .i64 0, .int .i64 0] 44 (0, 0)) → _) ?_; rotate_left; (focus (refine blk_call hg' hgw ?_; (repeat (first | with_reducible assumption | with_reducible refine blk_dr ?_ | with_reducible exact blk_new (by first | omega | (simp; omega)) | with_reducible exact blk_new2 (by first | omega | (simp; omega)) | with_reducible refine blk_al ?_)); done)); obtain ⟨⟨z0, _⟩, _, _⟩ := res2 hq.2; have := lt_of_block hq.2))); (try (focus (refine (fun hq => ?_ : Blk W6 U2 (W6.heap.size + 1) (.cells #[.bool false, .int .u64 0, .int .u64 0, .int .i64 0] 39 (0, 0)) → _) ?_; rotate_left; (focus (refine blk_call hg' hgw ?_; (repeat (first | with_reducible assumption | with_reducible refine blk_dr ?_ | with_reducible exact blk_new (by first | omega | (simp; omega)) | with_reducible exact blk_new2 (by first | omega | (simp; omega)) | with_reducible refine blk_al ?_)); done)); obtain ⟨⟨z0, _, _, _⟩, _, _, _, _⟩ := res4 hq.2; have := lt_of_block hq.2))); (try (focus (refine (fun hq => ?_ : Blk W6 U2 (W6.heap.size + 1) (.cells #[.int .i64 0, .int .i64 0] 44 (0, 0)) → _) ?_; rotate_left; (focus (refine blk_call hg' hgw ?_; (repeat (first | with_reducible assumption | with_reducible refine blk_dr ?_ | with_reducible exact blk_new (by first | omega | (simp; omega)) | with_reducible exact blk_new2 (by first | omega | (simp; omega)) | with_reducible refine blk_al ?_)); done)); obtain ⟨⟨z0, _⟩, _, _⟩ := res2 hq.2; have := lt_of_block hq.2))); (try (focus (refine (fun hq => ?_ : Blk W6 U2 (U1.heap.size) (.cells #[.bool false, .int .u64 0, .int .u64 0, .int .i64 0] 39 (0, 0)) → _) ?_; rotate_left; (focus (refine blk_call hg' hgw ?_; (repeat (first | with_reducible assumption | with_reducible refine blk_dr ?_ | with_reducible exact blk_new (by first | omega | (simp; omega)) | with_reducible exact blk_new2 (by first | omega | (simp; omega)) | with_reducible refine blk_al ?_)); done)); obtain ⟨⟨z0, _, _, _⟩, _, _, _, _⟩ := res4 hq.2; have := lt_of_block hq.2))); (try (focus (refine (fun hq => ?_ : Blk W6 U2 (U1.heap.size) (.cells #[.int .i64 0, .int .i64 0] 44 (0, 0)) → _) ?_; rotate_left; (focus (refine blk_call hg' hgw ?_; (repeat (first | with_reducible assumption | with_reducible refine blk_dr ?_ | with_reducible exact blk_new (by first | omega | (simp; omega)) | with_reducible exact blk_new2 (by first | omega | (simp; omega)) | with_reducible refine blk_al ?_)); done)); obtain ⟨⟨z0, _⟩, _, _⟩ := res2 hq.2; have := lt_of_block hq.2))); (try (focus (refine (fun hq => ?_ : Blk W6 U2 (U1.heap.size + 1) (.cells #[.bool false, .int .u64 0, .int .u64 0, .int .i64 0] 39 (0, 0)) → _) ?_; rotate_left; (focus (refine blk_call hg' hgw ?_; (repeat (first | with_reducible assumption | with_reducible refine blk_dr ?_ | with_reducible exact blk_new (by first | omega | (simp; omega)) | with_reducible exact blk_new2 (by first | omega | (simp; omega)) | with_reducible refine blk_al ?_)); done)); obtain ⟨⟨z0, _, _, _⟩, _, _, _, _⟩ := res4 hq.2; have := lt_of_block hq.2))); (try (focus (refine (fun hq => ?_ : Blk W6 U2 (U1.heap.size + 1) (.cells #[.int .i64 0, .int .i64 0] 44 (0, 0)) → _) ?_; rotate_left; (focus (refine blk_call hg' hgw ?_; (repeat (first | with_reducible assumption | with_reducible refine blk_dr ?_ | with_reducible exact blk_new (by first | omega | (simp; omega)) | with_reducible exact blk_new2 (by first | omega | (simp; omega)) | with_reducible refine blk_al ?_)); done)); obtain ⟨⟨z0, _⟩, _, _⟩ := res2 hq.2; have := lt_of_block hq.2))))
        | ((fail_if_success (have mk9 := mark1)); go_at_call 12; refine (hn1 _ (by (repeat (first | with_reducible exact hsx.out | with_reducible refine Str.dr ?_ | with_reducible refine Str.alloc ?_ _)))).mono ?_; rintro e U1 ⟨rfl, hs', hg'⟩; have c0 : U1.cell? ⟨g, off + k * 6, none⟩ = some (.bool p6) := ((gcell hg').1 _ _ (by first | omega | (simp; omega)) hgb).trans (by first | assumption | (go_simp; done)); have c1 : U1.cell? ⟨g, off + k * 6 + 1, none⟩ = some (.int .u64 ph) := ((gcell hg').1 _ _ (by first | omega | (simp; omega)) hgb).trans (by first | assumption | (go_simp; done)); have c2 : U1.cell? ⟨g, off + k * 6 + 2, none⟩ = some (.int .u64 pl) := ((gcell hg').1 _ _ (by first | omega | (simp; omega)) hgb).trans (by first | assumption | (go_simp; done)); have c3 : U1.cell? ⟨g, off + k * 6 + 3, none⟩ = some (.int .i64 pb) := ((gcell hg').1 _ _ (by first | omega | (simp; omega)) hgb).trans (by first | assumption | (go_simp; done)); have hgl : g < U1.heap.size := (by have := hg'.size; (try simp at this); omega); have hsx := Lib.hid hs'; have hgx : Hid (W6.grownBy U1 (some w.heap.size)) := Lib.hid (grown_then (by (repeat (first | with_reducible exact hgx.out | with_reducible refine drew_right ?_ | with_reducible refine grown_of_box ?_))) hg'); have nc1 : g ≠ W6.heap.size + 1 := (by omega); have nd1 : W6.heap.size + 1 ≠ g := (by omega); have ne1 : g ≠ W6.heap.size := (by omega); have nf1 : W6.heap.size ≠ g := (by omega); have na1 : W6.heap.size ≠ W6.heap.size + 1 := (by omega); have nb1 : W6.heap.size + 1 ≠ W6.heap.size := (by omega); have hsz1 := hg'.size; (try simp at hsz1); (try (focus (refine (fun hq => ?_ : Blk W6 U1 (W6.heap.size) (.cells #[.bool false, .int .u64 0, .int .u64 0, .int .i64 0] 39 (0, 0)) → _) ?_; rotate_left; (focus (refine blk_call hg' hgw ?_; (repeat (first | with_reducible assumption | with_reducible refine blk_dr ?_ | with_reducible exact blk_new (by first | omega | (simp; omega)) | with_reducible exact blk_new2 (by first | omega | (simp; omega)) | with_reducible refine blk_al ?_)); done)); obtain ⟨⟨z0, _, _, _⟩, _, _, _, _⟩ := res4 hq.2; have := lt_of_block hq.2))); (try (focus (refine (fun hq => ?_ : Blk W6 U1 (W6.heap.size) (.cells #[.int .i64 0, .int .i64 0] 44 (0, 0)) → _) ?_; rotate_left; (focus (refine blk_call hg' hgw ?_; (repeat (first | with_reducible assumption | with_reducible refine blk_dr ?_ | with_reducible exact blk_new (by first | omega | (simp; omega)) | with_reducible exact blk_new2 (by first | omega | (simp; omega)) | with_reducible refine blk_al ?_)); done)); obtain ⟨⟨z0, _⟩, _, _⟩ := res2 hq.2; have := lt_of_block hq.2))); (try (focus (refine (fun hq => ?_ : Blk W6 U1 (W6.heap.size + 1) (.cells #[.bool false, .int .u64 0, .int .u64 0, .int .i64 0] 39 (0, 0)) → _) ?_; rotate_left; (focus (refine blk_call hg' hgw ?_; (repeat (first | with_reducible assumption | with_reducible refine blk_dr ?_ | with_reducible exact blk_new (by first | omega | (simp; omega)) | with_reducible exact blk_new2 (by first | omega | (simp; omega)) | with_reducible refine blk_al ?_)); done)); obtain ⟨⟨z0, _, _, _⟩, _, _, _, _⟩ := res4 hq.2; have := lt_of_block hq.2))); (try (focus (refine (fun hq => ?_ : Blk W6 U1 (W6.heap.size + 1) (.cells #[.int .i64 0, .int .i64 0] 44 (0, 0)) → _) ?_; rotate_left; (focus (refine blk_call hg' hgw ?_; (repeat (first | with_reducible assumption | with_reducible refine blk_dr ?_ | with_reducible exact blk_new (by first | omega | (simp; omega)) | with_reducible exact blk_new2 (by first | omega | (simp; omega)) | with_reducible refine blk_al ?_)); done)); obtain ⟨⟨z0, _⟩, _, _⟩ := res2 hq.2; have := lt_of_block hq.2))); have mark1 : True := trivial)
        | (go_at_call 8; refine (hn3 _ (by (repeat (first | with_reducible exact hsx.out | with_reducible refine Str.dr ?_ | with_reducible refine Str.alloc ?_ _)))).mono ?_; rintro e U3 ⟨rfl, hs', hg'⟩; have c0 : U3.cell? ⟨g, off + k * 6, none⟩ = some (.bool p6) := ((gcell hg').1 _ _ (by first | omega | (simp; omega)) hgb).trans (by first | assumption | (go_simp; done)); have c1 : U3.cell? ⟨g, off + k * 6 + 1, none⟩ = some (.int .u64 ph) := ((gcell hg').1 _ _ (by first | omega | (simp; omega)) hgb).trans (by first | assumption | (go_simp; done)); have c2 : U3.cell? ⟨g, off + k * 6 + 2, none⟩ = some (.int .u64 pl) := ((gcell hg').1 _ _ (by first | omega | (simp; omega)) hgb).trans (by first | assumption | (go_simp; done)); have c3 : U3.cell? ⟨g, off + k * 6 + 3, none⟩ = some (.int .i64 pb) := ((gcell hg').1 _ _ (by first | omega | (simp; omega)) hgb).trans (by first | assumption | (go_simp; done)); have hgl : g < U3.heap.size := (by have := hg'.size; (try simp at this); omega); have hsx := Lib.hid hs'; have hgx : Hid (W6.grownBy U3 (some w.heap.size)) := Lib.hid (grown_then (by (repeat (first | with_reducible exact hgx.out | with_reducible refine drew_right ?_ | with_reducible refine grown_of_box ?_))) hg'); have nc3 : g ≠ U2.heap.size + 1 := (by omega); have nd3 : U2.heap.size + 1 ≠ g := (by omega); have ne3 : g ≠ U2.heap.size := (by omega); have nf3 : U2.heap.size ≠ g := (by omega); have na3 : U2.heap.size ≠ U2.heap.size + 1 := (by omega); have nb3 : U2.heap.size + 1 ≠ U2.heap.size := (by omega); have hsz3 := hg'.size; (try simp at hsz3); (try (focus (refine (fun hq => ?_ : Blk W6 U3 (W6.heap.size) (.cells #[.bool false, .int .u64 0, .int .u64 0, .int .i64 0] 39 (0, 0)) → _) ?_; rotate_left; (focus (refine blk_call hg' hgw ?_; (repeat (first | with_reducible assumption | with_reducible refine blk_dr ?_ | with_reducible exact blk_new (by first | omega | (simp; omega)) | with_reducible exact blk_new2 (by first | omega | (simp; omega)) | with_reducible refine blk_al ?_)); done)); obtain ⟨⟨z0, _, _, _⟩, _, _, _, _⟩ := res4 hq.2; have := lt_of_block hq.2))); (try (focus (refine (fun hq => ?_ : Blk W6 U3 (W6.heap.size) (.cells #[.int .i64 0, .int .i64 0] 44 (0, 0)) → _) ?_; rotate_left; (focus (refine blk_call hg' hgw ?_; (repeat (first | with_reducible assumption | with_reducible refine blk_dr ?_ | with_reducible exact blk_new (by first | omega | (simp; omega)) | with_reducible exact blk_new2 (by first | omega | (simp; omega)) | with_reducible refine blk_al ?_)); done)); obtain ⟨⟨z0, _⟩, _, _⟩ := res2 hq.2; have := lt_of_block hq.2))); (try (focus (refine (fun hq => ?_ : Blk W6 U3 (W6.heap.size + 1) (.cells #[.bool false, .int .u64 0, .int .u64 0, .int .i64 0] 39 (0, 0)) → _) ?_; rotate_left; (focus (refine blk_call hg' hgw ?_; (repeat (first | with_reducible assumption | with_reducible refine blk_dr ?_ | with_reducible exact blk_new (by first | omega | (simp; omega)) | with_reducible exact blk_new2 (by first | omega | (simp; omega)) | with_reducible refine blk_al ?_)); done)); obtain ⟨⟨z0, _, _, _⟩, _, _, _, _⟩ := res4 hq.2; have := lt_of_block hq.2))); (try (focus (refine (fun hq => ?_ : Blk W6 U3 (W6.heap.size + 1) (.cells #[.int .i64 0, .int .i64 0] 44 (0, 0)) → _) ?_; rotate_left; (focus (refine blk_call hg' hgw ?_; (repeat (first | with_reducible assumption | with_reducible refine blk_dr ?_ | with_reducible exact blk_new (by first | omega | (simp; omega)) | with_reducible exact blk_new2 (by first | omega | (simp; omega)) | with_reducible refine blk_al ?_)); done)); obtain ⟨⟨z0, _⟩, _, _⟩ := res2 hq.2; have := lt_of_block hq.2))); (try (focus (refine (fun hq => ?_ : Blk W6 U3 (U1.heap.size) (.cells #[.bool false, .int .u64 0, .int .u64 0, .int .i64 0] 39 (0, 0)) → _) ?_; rotate_left; (focus (refine blk_call hg' hgw ?_; (repeat (first | with_reducible assumption | with_reducible refine blk_dr ?_ | with_reducible exact blk_new (by first | omega | (simp; omega)) | with_reducible exact blk_new2 (by first | omega | (simp; omega)) | with_reducible refine blk_al ?_)); done)); obtain ⟨⟨z0, _, _, _⟩, _, _, _, _⟩ := res4 hq.2; have := lt_of_block hq.2))); (try (focus (refine (fun hq => ?_ : Blk W6 U3 (U1.heap.size) (.cells #[.int .i64 0, .int .i64 0] 44 (0, 0)) → _) ?_; rotate_left; (focus (refine blk_call hg' hgw ?_; (repeat (first | with_reducible assumption | with_reducible refine blk_dr ?_ | with_reducible exact blk_new (by first | omega | (simp; omega)) | with_reducible exact blk_new2 (by first | omega | (simp; omega)) | with_reducible refine blk_al ?_)); done)); obtain ⟨⟨z0, _⟩, _, _⟩ := res2 hq.2; have := lt_of_block hq.2))); (try (focus (refine (fun hq => ?_ : Blk W6 U3 (U1.heap.size + 1) (.cells #[.bool false, .int .u64 0, .int .u64 0, .int .i64 0] 39 (0, 0)) → _) ?_; rotate_left; (focus (refine blk_call hg' hgw ?_; (repeat (first | with_reducible assumption | with_reducible refine blk_dr ?_ | with_reducible exact blk_new (by first | omega | (simp; omega)) | with_reducible exact blk_new2 (by first | omega | (simp; omega)) | with_reducible refine blk_al ?_)); done)); obtain ⟨⟨z0, _, _, _⟩, _, _, _, _⟩ := res4 hq.2; have := lt_of_block hq.2))); (try (focus (refine (fun hq => ?_ : Blk W6 U3 (U1.heap.size + 1) (.cells #[.int .i64 0, .int .i64 0] 44 (0, 0)) → _) ?_; rotate_left; (focus (refine blk_call hg' hgw ?_; (repeat (first | with_reducible assumption | with_reducible refine blk_dr ?_ | with_reducible exact blk_new (by first | omega | (simp; omega)) | with_reducible exact blk_new2 (by first | omega | (simp; omega)) | with_reducible refine blk_al ?_)); done)); obtain ⟨⟨z0, _⟩, _, _⟩ := res2 hq.2; have := lt_of_block hq.2))); (try (focus (refine (fun hq => ?_ : Blk W6 U3 (U2.heap.size) (.cells #[.bool false, .int .u64 0, .int .u64 0, .int .i64 0] 39 (0, 0)) → _) ?_; rotate_left; (focus (refine blk_call hg' hgw ?_; (repeat (first | with_reducible assumption | with_reducible refine blk_dr ?_ | with_reducible exact blk_new (by first | omega | (simp; omega)) | with_reducible exact blk_new2 (by first | omega | (simp; omega)) | with_reducible refine blk_al ?_)); done)); obtain ⟨⟨z0, _, _, _⟩, _, _, _, _⟩ := res4 hq.2; have := lt_of_block hq.2))); (try (focus (refine (fun hq => ?_ : Blk W6 U3 (U2.heap.size) (.cells #[.int .i64 0, .int .i64 0] 44 (0, 0)) → _) ?_; rotate_left; (focus (refine blk_call hg' hgw ?_; (repeat (first | with_reducible assumption | with_reducible refine blk_dr ?_ | with_reducible exact blk_new (by first | omega | (simp; omega)) | with_reducible exact blk_new2 (by first | omega | (simp; omega)) | with_reducible refine blk_al ?_)); done)); obtain ⟨⟨z0, _⟩, _, _⟩ := res2 hq.2; have := lt_of_block hq.2))); (try (focus (refine (fun hq => ?_ : Blk W6 U3 (U2.heap.size + 1) (.cells #[.bool false, .int .u64 0, .int .u64 0, .int .i64 0] 39 (0, 0)) → _) ?_; rotate_left; (focus (refine blk_call hg' hgw ?_; (repeat (first | with_reducible assumption | with_reducible refine blk_dr ?_ | with_reducible exact blk_new (by first | omega | (simp; omega)) | with_reducible exact blk_new2 (by first | omega | (simp; omega)) | with_reducible refine blk_al ?_)); done)); obtain ⟨⟨z0, _, _, _⟩, _, _, _, _⟩ := res4 hq.2; have := lt_of_block hq.2))); (try (focus (refine (fun hq => ?_ : Blk W6 U3 (U2.heap.size + 1) (.cells #[.int .i64 0, .int .i64 0] 44 (0, 0)) → _) ?_; rotate_left; (focus (refine blk_call hg' hgw ?_; (repeat (first | with_reducible assumption | with_reducible refine blk_dr ?_ | with_reducible exact blk_new (by first | omega | (simp; omega)) | with_reducible exact blk_new2 (by first | omega | (simp; omega)) | with_reducible refine blk_al ?_)); done)); obtain ⟨⟨z0, _⟩, _, _⟩ := res2 hq.2; have := lt_of_block hq.2)))))
    all_goals (go_wp2_with fail; go_meet)
    all_goals first
      | with_reducible exact mk_DrawnA hgx.out
      | with_reducible exact mk_DrawnA' hgx.out
      | with_reducible exact mk_DrawnB hgx.out (by with_reducible assumption)
      | with_reducible exact mk_DrawnB' hgx.out (by with_reducible assumption)
      | with_reducible exact mk_Drawn hgx.out (by with_reducible assumption) (by with_reducible assumption)
  case rest =>
    obtain ⟨B6, B7, rfl, rfl, hq6, hq7, hl6, hl7, hgc⟩ := hcut
    have hB7 := Lib.hid (HB6.out.grown hgc HB6.out.size (fun j e => by injection e with e; omega))
    have hO7 := rts_below HO6.out hgc hnb
    have hOH7 : wc.ownsRow W3.heap.size 80 3 (.slice AH hs.length cH) hs.length (hlsCells hs) := World.ownsRow.kept HOH6.out hgc (.inr hnh)
    obtain ⟨A1, cA, e1, hat1⟩ := rts_own_at hO7
    obtain ⟨A2, cB, e2, hat2⟩ := hls_at hOH7
    injection e1 with e1
    injection e2 with e2
    subst e1 e2
    have hlen6 := lt_of_block hq6
    have hlen7 := lt_of_block hq7
    have HQ6 := Lib.hid hq6
    have HQ7 := Lib.hid hq7
    have HRC := Lib.hid hat1
    have HHC := Lib.hid hat2
    unfold pfBox at hq6
    obtain ⟨⟨y0, y1, y2, y3⟩, -⟩ := res4 hq6
    have hwa : 0 ≤ wa ∧ wa ≤ 50 + dz ∧ 50 + dz ≤ 345686400 := by omega
    have hT := Turns_any _ cA xs _ cB hs p6 ph pl pb own wc hat1 hat2 HFF.out HXK.out.hi HXK.out.lo HPC.out HOWN.out
    clear hq6 hq7 hat1 hat2 hO7 hOH7 hgc HO6 HOH6 HR6 HS6 HB6 hsx hgx hn1 hn2 hn3 c0 c1 c2 c3 hgl hgb
    go_wp2_with fail
    refine hT.mono ?_
    rintro e w1 ⟨AT, cT, rfl, hTA, hb1⟩
    have HB1 := Lib.hid (hB7.out.trans (hb1.mono hB7.out.size))
    have q6 := (hb1.block _ hlen6).trans HQ6.out
    have q7 := (hb1.block _ hlen7).trans HQ7.out
    have HR1 := Lib.hid ((HRC.out.below hb1).wide hb1.size)
    have HH1 := Lib.hid ((HHC.out.below hb1).wide hb1.size)
    have HT1 := Lib.hid hTA
    have hsz1 := hb1.size
    clear hT hb1 hTA HQ6 HQ7 HRC HHC hB7 y0 y1 y2 y3
    have hlen6 : B6 < w1.heap.size := by omega
    have hlen7 : B7 < w1.heap.size := by omega
    have HQ7 := Lib.hid q7
    unfold pfBox at q6
    obtain ⟨⟨y0, y1, y2, y3⟩, -⟩ := res4 q6
    obtain ⟨⟨z0, z1⟩, -⟩ := res2 q7
    have hU := Outage_any _ cA xs _ cB hs p6 ph pl pb wa (50 + dz) own w1 HR1.out HH1.out HFF.out HXK.out.hi HXK.out.lo HPC.out HOWN.out hwa.1 hwa.2.1 hwa.2.2
    have hrf := (rt_fine HFF.out.rf HFF.out.rl).own HOWN.out
    have hlf := hl_fine HFF.out.lf HFF.out.ll
    have htl := turns_len hrf hlf
    have HTN := Lib.hid (fun i (hi : i < (turnsP own hs).length) => turn_at hrf hlf hi)
    clear q6 q7 hrf hlf
    generalize turnsP own hs = ts at *
    go_wp2_with fail
    refine hU.mono ?_
    rintro e w2 ⟨rfl, hb2⟩
    have HB2 := Lib.hid (HB1.out.trans (hb2.mono HB1.out.size))
    have HT2 := Lib.hid ((HT1.out.below hb2).wide hb2.size)
    have q7 := (hb2.block _ hlen7).trans HQ7.out
    have hsz2 := hb2.size
    have hlen7 : B7 < w2.heap.size := by omega
    clear hU hb2 HB1 HT1 HR1 HH1 y0 y1 y2 y3 z0 z1 HQ7
    have HQ7 := Lib.hid q7
    clear q7
    go_wp2_with fail
    go_loopw [10, 67] (fun v10 v67 wr => FillI w2 ts wa (50 + dz) v10 v67 wr) (fun _ v67 _ => ts.length - (intOf v67).toNat)
    case atStart => exact ⟨0, by omega, rfl, by simp [inWs], Below.refl _ _⟩
    case round =>
      obtain ⟨k, hkl, rfl, rfl, hb⟩ := hrel
      have q7 := (hb.block _ hlen7).trans HQ7.out
      obtain ⟨⟨z0, z1⟩, -⟩ := res2 q7
      have hbs := hb.size
      by_cases hlt : k < ts.length
      · obtain ⟨g, rfl, hg, c0, c1, c2⟩ := (HT2.out.below hb) k hlt
        have hta := HTN.out k hlt
        have t0 := hta.low
        have t1 := hta.from_
        have t2 := hta.high
        unfold endT at t2
        have hbf := hta.before
        have q1 := inWs_le ts hwa.2.1 (by omega) k
        have q2 := inWs_le ts hwa.2.1 (by omega) ts.length
        have q3 := inW_le (f := (ts.getD k noTn).from_) (t := (ts.getD k noTn).to_) hwa.2.1
        have e1 : inWs ts wa (50 + dz) (k + 1) = inWs ts wa (50 + dz) k + inW (ts.getD k noTn).from_ (ts.getD k noTn).to_ wa (50 + dz) := rfl
        have E1 := Lib.hid e1
        have hzc : Hid (0 < k → wr.cell? ⟨g, (k - 1) * 3, none⟩ = some (.string (ts.getD (k - 1) noTn).who) ∧ wr.cell? ⟨g, (k - 1) * 3 + 2, none⟩ = some (.int .i64 (ts.getD (k - 1) noTn).to_)) := Lib.hid fun h1 => by
          obtain ⟨g', e', _, d0, _, d2⟩ := (HT2.out.below hb) (k - 1) (by omega)
          injection e' with e'
          injection e' with e'
          subst e'
          exact ⟨d0, d2⟩
        have hbB := hb.alloc hb.size (.cells #[.string (ts.getD k noTn).who, .int .i64 (ts.getD k noTn).from_, .int .i64 (ts.getD k noTn).to_] 51)
        have HBB := Lib.hid hbB
        clear hta e1 q7 hb hbB
        generalize ts.getD k noTn = x at *
        generalize ts.getD (k - 1) noTn = y at *
        obtain ⟨xw, xf, xt⟩ := x
        obtain ⟨yw, yf, yt⟩ := y
        simp only at c0 c1 c2 t0 t1 t2 q3 E1 hbf HBB hzc
        generalize inWs ts wa (50 + dz) k = S at *
        generalize hTT : inWs ts wa (50 + dz) ts.length = T at *
        have HTT := Lib.hid hTT
        clear hTT
        have s0 : IntKind.i64.wrap (min xt (50 + dz) - max xf wa) = min xt (50 + dz) - max xf wa := IntWalk.i64_in _ (by omega)
        have s1 : IntKind.i64.wrap (50 + dz - wa - T + S + max 0 (min xt (50 + dz) - max xf wa)) = 50 + dz - wa - T + S + max 0 (min xt (50 + dz) - max xf wa) := IntWalk.i64_in _ (by unfold inW at q3; omega)
        have hb7w : B7 < wr.heap.size := by omega
        have hbx : (wr.alloc (.cells #[.string xw, .int .i64 xf, .int .i64 xt] 51)).heap[wr.heap.size]? = some (.cells #[.string xw, .int .i64 xf, .int .i64 xt] 51 (0, 0)) := heap_alloc_new _ _
        have b0 : (wr.alloc (.cells #[.string xw, .int .i64 xf, .int .i64 xt] 51)).cell? ⟨wr.heap.size, 0, none⟩ = some (.string xw) := by simp only [World.cell?, hbx]; rfl
        have b1 : (wr.alloc (.cells #[.string xw, .int .i64 xf, .int .i64 xt] 51)).cell? ⟨wr.heap.size, 1, none⟩ = some (.int .i64 xf) := by simp only [World.cell?, hbx]; rfl
        have b2 : (wr.alloc (.cells #[.string xw, .int .i64 xf, .int .i64 xt] 51)).cell? ⟨wr.heap.size, 2, none⟩ = some (.int .i64 xt) := by simp only [World.cell?, hbx]; rfl
        have hgw : g < wr.heap.size := by omega
        have hzd : Hid (0 < k → (wr.alloc (.cells #[.string xw, .int .i64 xf, .int .i64 xt] 51)).cell? ⟨g, (k - 1) * 3, none⟩ = some (.string yw) ∧ (wr.alloc (.cells #[.string xw, .int .i64 xf, .int .i64 xt] 51)).cell? ⟨g, (k - 1) * 3 + 2, none⟩ = some (.int .i64 yt)) := Lib.hid fun h1 => by
          obtain ⟨e0, e2⟩ := hzc.out h1
          exact ⟨(World.cell?_alloc_lt _ _ ⟨g, _, none⟩ hgw).trans e0, (World.cell?_alloc_lt _ _ ⟨g, _, none⟩ hgw).trans e2⟩
        have HBF := Lib.hid hbf
        clear hzc hbx hbf
        go_wp2_with fail
        clear c0 c1 c2 z0 z1
        generalize World.alloc wr _ = W9 at *
        have e3 : decide (xt ≤ xf) = false := by simp; omega
        have HN : Hid (∀ q, FillI w2 ts wa (50 + dz) (.int .i64 (50 + dz - wa - T + S + max 0 (min xt (50 + dz) - max xf wa))) (.int .i64 ((k + 1 : Nat) : Int)) (W9.drewN q)) := Lib.hid fun q => ⟨k + 1, hlt, rfl, by rw [E1.out, HTT.out]; congr 1; unfold inW; omega, below_dn HBB.out q⟩
        by_cases h1 : 0 < k
        · obtain ⟨Y0, Y2⟩ := hzd.out h1
          obtain ⟨hle, hne⟩ := HBF.out h1
          have e4 : decide ((0 : Int) < (k : Int)) = true := by simp; omega
          have e5 : decide (xf < yt) = false := by simp; omega
          have s2 : IntKind.i64.wrap ((k : Int) - 1) = (k : Int) - 1 := IntWalk.i64_in _ (by omega)
          have s3 : 0 ≤ (k : Int) - 1 := by omega
          have s4 : ((k : Int) - 1).toNat = k - 1 := by omega
          have s5 : (k : Int) - 1 < (ts.length : Int) := by omega
          clear hzd HBF E1 HBB
          by_cases h2 : yt = xf
          · have e6 : (yw.toList == xw.toList) = false := by
              rw [beq_eq_false_iff_ne]
              exact fun e => hne h2 (bytes_ext e)
            subst h2
            go_quiet (fail)
            go_wp2_with fail
            go_roundw
            case rel => exact HN.out _
            case measure => simp [intOf]; omega
          · have e6 : (yt == xf) = false := by rw [beq_eq_false_iff_ne]; exact h2
            go_quiet (fail)
            go_wp2_with fail
            go_roundw
            case rel => exact HN.out _
            case measure => simp [intOf]; omega
        · have e4 : decide ((0 : Int) < (k : Int)) = false := by simp; omega
          clear hzd HBF E1 HBB
          go_quiet (fail)
          go_wp2_with fail
          go_roundw
          case rel => exact HN.out _
          case measure => simp [intOf]; omega
      · have : k = ts.length := by omega
        subst this
        have hfin : (50 + dz - wa - inWs ts wa (50 + dz) ts.length + inWs ts wa (50 + dz) ts.length == 50 + dz - wa) = true := by simp
        have s9 : IntKind.i64.wrap (50 + dz - wa) = 50 + dz - wa := IntWalk.i64_in _ (by omega)
        go_wp2_with fail
        refine Calls.mono (ready_true wr) ?_
        rintro _ W9 ⟨rfl, hb9⟩
        have HB9 := Lib.hid (HB2.out.trans ((hb.mono HB2.out.size).trans (hb9.mono (Nat.le_trans HB2.out.size hb.size))))
        clear hb9
        go_wp2_with fail
        go_ret
        exact ⟨rfl, HB9.out⟩
end Go.Proofs.YtollmagiifkicaaGreatDoor
