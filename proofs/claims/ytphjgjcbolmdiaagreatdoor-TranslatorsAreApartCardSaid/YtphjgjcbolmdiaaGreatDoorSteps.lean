/- route.stepsOf: the links of each relay, in one direction. -/
import Derived.Test.YtphjgjcbolmdiaaGreatDoorGroups
import Derived.Test.YtphjgjcbolmdiaaGreatDoorDist
import Derived.Test.YtphjgjcbolmdiaaGreatDoorFlt
import Derived.Deep.RegionHeld3
namespace Go.Proofs.YtphjgjcbolmdiaaGreatDoor
open Go.RowKit Go.Hw

def stCells (s : ByteArray × Nat) : List Value := [.string s.1, .int .i64 (s.2 : Int)]
def lkOf (x : Link) : Lk := ⟨x.a, x.b, (x.m : Int)⟩
theorem Tryz.infoStep : (Tryz.prog.info? 146).map (fun i => (i.zero, i.size, i.bytes)) = some (some (.agg #[.string ⟨#[]⟩, .int .i64 0]), 2, 24) := by kernel_rfl
theorem Tryz.zeroSteps (w : World) : (zeroValue 144).run Tryz.prog w = .ok (.slice none 0 0) w := by kernel_rfl

theorem stepsAt_snoc (x : List Link) (l : Link) (u : ByteArray) : stepsAt (x ++ [l]) u = stepsAt x u ++ ((if l.a = u then [(l.b, l.m)] else []) ++ (if l.b = u then [(l.a, l.m)] else [])) := by
  simp [stepsAt]
theorem steps_length (x : List Link) (u : ByteArray) : (stepsAt x u).length ≤ 2 * x.length := by
  induction x with
  | nil => simp [stepsAt]
  | cons l x ih =>
    unfold stepsAt at *
    rw [List.flatMap_cons, List.length_append, List.length_cons, List.length_append]
    have h1 : (if l.a = u then [(l.b, l.m)] else []).length ≤ 1 := by split <;> simp
    have h2 : (if l.b = u then [(l.a, l.m)] else []).length ≤ 1 := by split <;> simp
    omega
theorem steps_two (x : List Link) (l : Link) (h : l.a ≠ l.b) :
    (fun v => if v = l.b then (fun v => if v = l.a then stepsAt x l.a ++ [(l.b, l.m)] else stepsAt x v) l.b ++ [(l.a, l.m)] else (fun v => if v = l.a then stepsAt x l.a ++ [(l.b, l.m)] else stepsAt x v) v) = stepsAt (x ++ [l]) := by
  funext v
  rw [stepsAt_snoc]
  by_cases h1 : v = l.b
  · subst h1
    simp [h, Ne.symm h]
  · by_cases h2 : v = l.a
    · subst h2
      simp [h, Ne.symm h]
    · simp [h1, h2, Ne.symm h1, Ne.symm h2]

set_option maxRecDepth 100000 in
set_option maxHeartbeats 1000000 in
theorem stepsOf_any (A : Option Addr) (cap : Nat) (xs : List Link) (w : World) (h : LksAt w w.heap.size A (xs.map lkOf)) (hl : xs.length ≤ 1000000) (hne : ∀ x ∈ xs, x.a ≠ x.b) :
    Calls Tryz.prog 77 #[.slice A xs.length cap] w fun e w' => ∃ b m, e = .returned (.map (some b)) ∧ Groups w' w.heap.size b 146 2 stCells (stepsAt xs) m ∧ Below w.heap.size w w' ∧ w.heap.size ≤ b := by
  have hmm := @run_makeMap Tryz.prog
  obtain ⟨i0, hi, hz0, hz1, hz2⟩ := info_parts Tryz.infoStep
  have H := Lib.hid h
  have HN := Lib.hid hne
  clear h hne
  go_enter Tryz.func77, Tryz.ntmps77
  go_wp2_with fail
  go_loopw [9] (fun i wr => ∃ k m, k ≤ xs.length ∧ i = .int .i64 (k : Nat) ∧ Groups wr w.heap.size w.heap.size 146 2 stCells (stepsAt (xs.take k)) m ∧ Below w.heap.size w wr) (fun i _ => xs.length - (intOf i).toNat)
  case atStart => exact ⟨0, [], Nat.zero_le _, rfl, Groups.made _ _ _ _ _, (Below.refl _ _).alloc (Nat.le_refl _) _⟩
  case round =>
    obtain ⟨k, m, hk, rfl, hG, hb⟩ := hrel
    by_cases hlt : k < xs.length
    · obtain ⟨g, off, rfl, hg, c0, c1, c2⟩ := (H.out.below hb) k (by simpa using hlt)
      have hx : (xs.map lkOf).getD k noLk = lkOf xs[k] := by simp [List.getElem?_eq_getElem hlt]
      rw [hx] at c0 c1 c2
      have hab := HN.out xs[k] (List.getElem_mem hlt)
      have htk : xs.take (k + 1) = xs.take k ++ [xs[k]] := by rw [List.take_succ_eq_append_getElem hlt]
      have HT := Lib.hid htk
      clear htk hx
      generalize xs[k] = x at *
      obtain ⟨xa, xb, xm⟩ := x
      simp only [lkOf] at c0 c1 c2 hab
      have hys : (xs.take k).length ≤ xs.length := by simp; omega
      generalize xs.take k = ys at *
      have hsa := steps_length ys xa
      have hsb := steps_length ys xb
      go_wp2_with fail
      obtain ⟨wa, hwa⟩ : ∃ wa : World, wa = wr.alloc (.cells #[.string xa, .string xb, .int .i64 xm] 74) := ⟨_, rfl⟩
      rw [← hwa]
      have hGa := hG.alloc (.cells #[.string xa, .string xb, .int .i64 xm] 74)
      have hba := hb.alloc hb.size (.cells #[.string xa, .string xb, .int .i64 xm] 74)
      have x0 : (wr.alloc (.cells #[.string xa, .string xb, .int .i64 xm] 74)).cell? ⟨wr.heap.size, 0, none⟩ = some (.string xa) := by simp only [World.cell?, heap_alloc_new]; rfl
      have x1 : (wr.alloc (.cells #[.string xa, .string xb, .int .i64 xm] 74)).cell? ⟨wr.heap.size, 1, none⟩ = some (.string xb) := by simp only [World.cell?, heap_alloc_new]; rfl
      have x2 : (wr.alloc (.cells #[.string xa, .string xb, .int .i64 xm] 74)).cell? ⟨wr.heap.size, 2, none⟩ = some (.int .i64 xm) := by simp only [World.cell?, heap_alloc_new]; rfl
      have hbx : wr.heap.size < (wr.alloc (.cells #[.string xa, .string xb, .int .i64 xm] 74)).heap.size := by simp
      have hbw : w.heap.size < wr.heap.size := hG.map_.lt
      have hnr : ∀ u, (rowOf m u).ownBlock ≠ some wr.heap.size := fun u e => by have := (hG.rows u).lt _ e; omega
      rw [← hwa] at hGa hba x0 x1 x2 hbx
      clear hG hb c0 c1 c2 hwa
      generalize wr.heap.size = bx at *
      have hL1 := hGa.look Tryz.underlying137 Tryz.underlying9 Tryz.zeroSteps xa wa.drew rfl
      have hL2 := hGa.look Tryz.underlying137 Tryz.underlying9 Tryz.zeroSteps xa (wa.alloc (.cells #[.string xb, .int .i64 xm] 146)).drew (Below.heap_alloc _ _ _ hGa.map_.lt)
      have v0 : (wa.alloc (.cells #[.string xb, .int .i64 xm] 146)).drew.cell? ⟨bx, 0, none⟩ = some (.string xa) := (World.cell?_alloc_lt wa _ ⟨bx, 0, none⟩ hbx).trans x0
      have v1 : (wa.alloc (.cells #[.string xb, .int .i64 xm] 146)).drew.cell? ⟨bx, 1, none⟩ = some (.string xb) := (World.cell?_alloc_lt wa _ ⟨bx, 1, none⟩ hbx).trans x1
      have v2 : (wa.alloc (.cells #[.string xb, .int .i64 xm] 146)).drew.cell? ⟨bx, 2, none⟩ = some (.int .i64 xm) := (World.cell?_alloc_lt wa _ ⟨bx, 2, none⟩ hbx).trans x2
      have V0 := Lib.hid v0
      have V1 := Lib.hid v1
      have V2 := Lib.hid v2
      clear v0 v1 v2
      have HG := Lib.hid hGa
      have HB := Lib.hid hba
      have HNR := Lib.hid hnr
      clear hGa hba hnr
      go_region_held3 (fun w' => w'.cell? ⟨bx, 0, none⟩ = some (.string xa) ∧ w'.cell? ⟨bx, 1, none⟩ = some (.string xb) ∧ w'.cell? ⟨bx, 2, none⟩ = some (.int .i64 xm))
        (first | go_keep | exact ⟨x0, x1, x2⟩ | exact ⟨V0.out, V1.out, V2.out⟩ | exact ⟨y0, y1, y2⟩ | exact ⟨z0, z1, z2⟩)
        ((refine step_append_lies _ (by rfl) _ _ _ (by rfl) w.heap.size 146 i0 _ 2 24 Tryz.underlying144 hi hz0 hz1 hz2 rfl (by omega) (rowOf m xa) _ _ (by rfl) ((HG.out.alloc (.cells #[.string xb, .int .i64 xm] 146)).drew.rows xa)
            ⟨wa.heap.size, 0, none⟩ 1 1 [.string xb, .int .i64 xm] (by rfl) (by rfl) (World.news_of_block (cs := #[.string xb, .int .i64 xm]) (t := 146) (fr := (0, 0)) (heap_alloc_new wa _)) (by simp [Value.oneCell'])
            (by omega) (by unfold maxLen; omega) (by omega) (by simp; omega) (wa.heap.size + 1) (by simp) ?_; intro gg cg w1 hown1 hgrow hat _
          have y0 : w1.cell? ⟨bx, 0, none⟩ = some (.string xa) := (hgrow.cell_far _ (by simp; omega) (Ne.symm (HNR.out xa))).trans V0.out
          have y1 : w1.cell? ⟨bx, 1, none⟩ = some (.string xb) := (hgrow.cell_far _ (by simp; omega) (Ne.symm (HNR.out xa))).trans V1.out
          have y2 : w1.cell? ⟨bx, 2, none⟩ = some (.int .i64 xm) := (hgrow.cell_far _ (by simp; omega) (Ne.symm (HNR.out xa))).trans V2.out
          obtain ⟨w2, hrun2, hG2, hg2⟩ := Groups.put ((HG.out.alloc (.cells #[.string xb, .int .i64 xm] 146)).drew) Tryz.underlying137 Tryz.underlying9 xa (xb, xm) (by simpa [stCells] using hown1) (by simp) hgrow hat (by simp [World.drew])
          have z0 : w2.cell? ⟨bx, 0, none⟩ = some (.string xa) := (hg2.cell_far _ (World.block_lt_of_cell? _ _ y0) (by simp; omega)).trans y0
          have z1 : w2.cell? ⟨bx, 1, none⟩ = some (.string xb) := (hg2.cell_far _ (World.block_lt_of_cell? _ _ y1) (by simp; omega)).trans y1
          have z2 : w2.cell? ⟨bx, 2, none⟩ = some (.int .i64 xm) := (hg2.cell_far _ (World.block_lt_of_cell? _ _ y2) (by simp; omega)).trans y2))
      all_goals
        have hb2 : Below w.heap.size w w2 := ((((HB.out.alloc (Nat.le_of_lt (Nat.lt_trans hbw hbx)) (.cells #[.string xb, .int .i64 xm] 146)).drew).grown hgrow (by simp [World.drew]; omega) (fun j hj => ((HG.out.rows xa).lt j hj).1)).grown hg2 (by have := hgrow.size; simp [World.drew] at this; omega) (fun j hj => by injection hj with hj; omega))
        have hnr2 : ∀ u, (rowOf (Hw.put m xa (.slice (some ⟨gg, 0, none⟩) ((stepsAt ys xa).length + 1) cg)) u).ownBlock ≠ some bx := by
          intro u hu
          unfold rowOf at hu
          rw [get_put] at hu
          by_cases hx : u = xa
          · rw [if_pos hx] at hu
            simp [Value.ownBlock] at hu
            subst hu
            rcases hat with h1 | h1
            · exact HNR.out xa h1
            · omega
          · rw [if_neg hx] at hu
            exact HNR.out u hu
        clear hgrow hg2 hat hown1 hrun2 y0 y1 y2 HG HB HNR V0 V1 V2 hL1 hL2 x0 x1 x2 hbx
        have hbx2 : bx < w2.heap.size := World.block_lt_of_cell? _ _ z0
        generalize Hw.put m xa (.slice (some ⟨gg, 0, none⟩) ((stepsAt ys xa).length + 1) cg) = m2 at *
        have hs2 : (fun v => if v = xb then (fun v => if v = xa then stepsAt ys xa ++ [(xb, xm)] else stepsAt ys v) xb ++ [(xa, xm)] else (fun v => if v = xa then stepsAt ys xa ++ [(xb, xm)] else stepsAt ys v) v) = stepsAt (ys ++ [⟨xa, xb, xm⟩]) := steps_two ys ⟨xa, xb, xm⟩ hab
        have hsl : ((fun v => if v = xa then stepsAt ys xa ++ [(xb, xm)] else stepsAt ys v) xb).length ≤ 2 * ys.length := by simp only [if_neg (Ne.symm hab)]; exact hsb
        generalize (fun v => if v = xa then stepsAt ys xa ++ [(xb, xm)] else stepsAt ys v) = S2 at *
        have HS2 := Lib.hid hs2
        clear hs2
        go_wp2_with fail
        have hL1 := hG2.look Tryz.underlying137 Tryz.underlying9 Tryz.zeroSteps xb w2.drew rfl
        have hL2 := hG2.look Tryz.underlying137 Tryz.underlying9 Tryz.zeroSteps xb (w2.alloc (.cells #[.string xa, .int .i64 xm] 146)).drew (Below.heap_alloc _ _ _ hG2.map_.lt)
        have v0 : (w2.alloc (.cells #[.string xa, .int .i64 xm] 146)).drew.cell? ⟨bx, 0, none⟩ = some (.string xa) := (World.cell?_alloc_lt w2 _ ⟨bx, 0, none⟩ hbx2).trans z0
        have v1 : (w2.alloc (.cells #[.string xa, .int .i64 xm] 146)).drew.cell? ⟨bx, 1, none⟩ = some (.string xb) := (World.cell?_alloc_lt w2 _ ⟨bx, 1, none⟩ hbx2).trans z1
        have v2 : (w2.alloc (.cells #[.string xa, .int .i64 xm] 146)).drew.cell? ⟨bx, 2, none⟩ = some (.int .i64 xm) := (World.cell?_alloc_lt w2 _ ⟨bx, 2, none⟩ hbx2).trans z2
        have V0 := Lib.hid v0
        have V1 := Lib.hid v1
        have V2 := Lib.hid v2
        clear v0 v1 v2
        have HG := Lib.hid hG2
        have HB := Lib.hid hb2
        have HNR := Lib.hid hnr2
        clear hG2 hb2 hnr2
        go_region_held3 (fun w' => w'.cell? ⟨bx, 0, none⟩ = some (.string xa) ∧ w'.cell? ⟨bx, 1, none⟩ = some (.string xb) ∧ w'.cell? ⟨bx, 2, none⟩ = some (.int .i64 xm))
          (first | go_keep | exact ⟨z0, z1, z2⟩ | exact ⟨V0.out, V1.out, V2.out⟩ | exact ⟨y0, y1, y2⟩ | exact ⟨t0, t1, t2⟩)
          ((refine step_append_lies _ (by rfl) _ _ _ (by rfl) w.heap.size 146 i0 _ 2 24 Tryz.underlying144 hi hz0 hz1 hz2 rfl (by omega) (rowOf m2 xb) _ _ (by rfl) ((HG.out.alloc (.cells #[.string xa, .int .i64 xm] 146)).drew.rows xb)
              ⟨w2.heap.size, 0, none⟩ 1 1 [.string xa, .int .i64 xm] (by rfl) (by rfl) (World.news_of_block (cs := #[.string xa, .int .i64 xm]) (t := 146) (fr := (0, 0)) (heap_alloc_new w2 _)) (by simp [Value.oneCell'])
              (by omega) (by unfold maxLen; omega) (by omega) (by simp; omega) (w2.heap.size + 1) (by simp) ?_; intro gh ch w3 hown1 hgrow hat _
            have y0 : w3.cell? ⟨bx, 0, none⟩ = some (.string xa) := (hgrow.cell_far _ (by simp; omega) (Ne.symm (HNR.out xb))).trans V0.out
            have y1 : w3.cell? ⟨bx, 1, none⟩ = some (.string xb) := (hgrow.cell_far _ (by simp; omega) (Ne.symm (HNR.out xb))).trans V1.out
            have y2 : w3.cell? ⟨bx, 2, none⟩ = some (.int .i64 xm) := (hgrow.cell_far _ (by simp; omega) (Ne.symm (HNR.out xb))).trans V2.out
            obtain ⟨w4, hrun3, hG4, hg4⟩ := Groups.put ((HG.out.alloc (.cells #[.string xa, .int .i64 xm] 146)).drew) Tryz.underlying137 Tryz.underlying9 xb (xa, xm) (by simpa [stCells] using hown1) (by simp) hgrow hat (by simp [World.drew])
            have t0 : w4.cell? ⟨bx, 0, none⟩ = some (.string xa) := (hg4.cell_far _ (World.block_lt_of_cell? _ _ y0) (by simp; omega)).trans y0
            have t1 : w4.cell? ⟨bx, 1, none⟩ = some (.string xb) := (hg4.cell_far _ (World.block_lt_of_cell? _ _ y1) (by simp; omega)).trans y1
            have t2 : w4.cell? ⟨bx, 2, none⟩ = some (.int .i64 xm) := (hg4.cell_far _ (World.block_lt_of_cell? _ _ y2) (by simp; omega)).trans y2))
        all_goals
          have hb4 : Below w.heap.size w w4 := ((((HB.out.alloc (Nat.le_of_lt (Nat.lt_trans hbw hbx2)) (.cells #[.string xa, .int .i64 xm] 146)).drew).grown hgrow (by simp [World.drew]; omega) (fun j hj => ((HG.out.rows xb).lt j hj).1)).grown hg4 (by have := hgrow.size; simp [World.drew] at this; omega) (fun j hj => by injection hj with hj; omega))
          rw [HS2.out] at hG4
          clear hgrow hg4 hat hown1 hrun3 y0 y1 y2 t0 t1 t2 z0 z1 z2 HG HB HNR V0 V1 V2 hL1 hL2 hbx2 HS2
          go_wp2_with fail
          go_roundw
          case rel => exact ⟨k + 1, _, by omega, by go_num, by rw [HT.out]; exact hG4, hb4⟩
          case measure => simp [intOf]; omega
    · have : k = xs.length := by omega
      subst this
      rw [List.take_length] at hG
      go_wp2_with fail
      go_ret
      exact ⟨_, _, rfl, hG, hb, Nat.le_refl _⟩
end Go.Proofs.YtphjgjcbolmdiaaGreatDoor
