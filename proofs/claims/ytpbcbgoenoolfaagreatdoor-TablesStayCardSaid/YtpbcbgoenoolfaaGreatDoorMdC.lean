/- kit.Gcd, Lowest; flow.middle, Median. -/
import Derived.Test.YtpbcbgoenoolfaaGreatDoorMdB
import Derived.Deep.RegionHeld3
import Derived.OwnWalk
namespace Go.Proofs.YtpbcbgoenoolfaaGreatDoor
open Go.RowKit Go.Hw Go.Shelf

set_option maxRecDepth 100000 in
set_option maxHeartbeats 1000000 in
theorem gcd_any (a b : Nat) (w : World) (ha : a ≤ 1000000000000000) (hb : b ≤ 1000000000000000) :
    Calls Tryz.prog 103 #[.int .i64 a, .int .i64 b] w fun e w' => e = .returned (.int .i64 (Nat.gcd a b : Nat)) ∧ Below w.heap.size w w' := by
  go_enter Tryz.func103, Tryz.ntmps103
  go_wp2_with fail
  go_loopw [0, 1] (fun v0 v1 wr => ∃ x y : Nat, v0 = .int .i64 x ∧ v1 = .int .i64 y ∧ Nat.gcd x y = Nat.gcd a b ∧ x ≤ 1000000000000000 ∧ y ≤ 1000000000000000 ∧ Below w.heap.size w wr) (fun _ v1 _ => (intOf v1).toNat)
  case atStart => exact ⟨a, b, rfl, rfl, rfl, ha, hb, Below.refl _ _⟩
  case round =>
    obtain ⟨x, y, rfl, rfl, hg, hx, hy, hb1⟩ := hrel
    by_cases hz : y = 0
    · subst hz
      have hg' : x = Nat.gcd a b := by rw [← hg]; simp
      have HG := Lib.hid hg'
      have s0 : IntKind.i64.wrap (-(x : Int)) = -(x : Int) := IntWalk.i64_in _ (by omega)
      have s1 : max (x : Int) (-(x : Int)) = x := by omega
      clear hg hg'
      go_wp2_with fail
      go_ret
      exact ⟨(by rw [← HG.out]; rfl), hb1⟩
    · have hz1 : ((y : Int) != 0) = true := by simpa using hz
      have hz2 : (y : Int) ≠ 0 := by omega
      have hz3 : ((y : Int) == 0) = false := by rw [beq_eq_false_iff_ne]; exact hz2
      have hm : (x : Int).tmod (y : Int) = ((x % y : Nat) : Int) := (Int.ofNat_tmod x y).symm
      have hlt : x % y < y := Nat.mod_lt _ (by omega)
      have s0 : IntKind.i64.wrap ((x % y : Nat) : Int) = ((x % y : Nat) : Int) := IntWalk.i64_in _ (by omega)
      have HN := Lib.hid (show Nat.gcd y (x % y) = Nat.gcd a b from by rw [← hg, Nat.gcd_comm x y, Nat.gcd_rec y x, Nat.gcd_comm])
      have HB := Lib.hid hb1
      clear hg hb1
      generalize x % y = r at *
      go_wp2_with fail
      go_quiet (fail)
      go_wp2_with fail
      go_roundw
      case rel => exact ⟨y, r, rfl, rfl, HN.out, by omega, by omega, ⟨HB.out.os, HB.out.tape, HB.out.output, HB.out.size, HB.out.block⟩⟩
      case measure => simp [intOf]; omega

set_option maxRecDepth 100000 in
set_option maxHeartbeats 1000000 in
theorem lowest_any (n d : Nat) (w : World) (hn : n ≤ 1000000000000000) (hd : d ≤ 1000) (hd0 : 0 < d) :
    Calls Tryz.prog 53 #[.int .i64 n, .int .i64 d] w fun e w' => e = .returned (.agg #[.int .i64 (n / Nat.gcd n d : Nat), .int .i64 (d / Nat.gcd n d : Nat)]) ∧ Below w.heap.size w w' := by
  have hg0 : 0 < Nat.gcd n d := Nat.gcd_pos_of_pos_right n hd0
  have hgd : Nat.gcd n d ≤ d := Nat.gcd_le_right n hd0
  have hr := heap_alloc_new w (.cells #[.int .i64 0, .int .i64 0] 76)
  have HR := Lib.hid hr
  have HB := Lib.hid ((Below.refl w.heap.size w).alloc (Nat.le_refl _) (.cells #[.int .i64 0, .int .i64 0] 76))
  have hlt := lt_of_block hr
  have hd1 : decide ((d : Int) < 0) = false := by simp
  clear hr
  have hgc := fun W => gcd_any n d W hn (by omega)
  go_enter Tryz.func53, Tryz.ntmps53
  go_wp2_with fail
  generalize World.alloc w _ = W0 at *
  refine (hgc W0).mono ?_
  rintro e W1 ⟨rfl, hb1⟩
  have hr1 := (hb1.block _ hlt).trans HR.out
  have HR1 := Lib.hid hr1
  have HB1 := Lib.hid (HB.out.trans (hb1.mono HB.out.size))
  have hlt1 := lt_of_block hr1
  have c0 := cell_of hr1 0
  have c1 := cell_of hr1 1
  simp only [List.getElem?_toArray, List.getElem?_cons_zero, List.getElem?_cons_succ] at c0 c1
  have f0 : W1.frozen? ⟨w.heap.size, 0, none⟩ = false := by simp [World.frozen?, hr1]
  have f1 : W1.frozen? ⟨w.heap.size, 1, none⟩ = false := by simp [World.frozen?, hr1]
  generalize hgg : Nat.gcd n d = g at *
  have HGG := Lib.hid hgg
  clear hgg
  have q0 : ((g : Int) == 0) = false := by rw [beq_eq_false_iff_ne]; omega
  have q1 : (g : Int) ≠ 0 := by omega
  have t1 : (n : Int).tdiv (g : Int) = ((n / g : Nat) : Int) := (Int.ofNat_tdiv n g).symm
  have t2 : (d : Int).tdiv (g : Int) = ((d / g : Nat) : Int) := (Int.ofNat_tdiv d g).symm
  have hle1 : n / g ≤ n := Nat.div_le_self _ _
  have hle2 : d / g ≤ d := Nat.div_le_self _ _
  generalize hxx : n / g = x at *
  generalize hyy : d / g = y at *
  have HXX := Lib.hid hxx
  have HYY := Lib.hid hyy
  clear hxx hyy
  have s1 : IntKind.i64.wrap (x : Int) = (x : Int) := IntWalk.i64_in _ (by omega)
  have s2 : IntKind.i64.wrap (y : Int) = (y : Int) := IntWalk.i64_in _ (by omega)
  clear hgc hb1 hr1 HR HB hlt
  go_wp2_with fail
  go_region
  clear c0 c1 f0 f1
  have hr := ((Re.refl HR1.out).set 0 (.int .i64 (x : Nat))).set 1 (.int .i64 (y : Nat))
  have hbr := hr.below HB1.out (Nat.le_refl _)
  generalize hW : World.setCell _ _ _ = W9
  rw [hW] at hr hbr
  clear hW
  have hbk : W9.heap[w.heap.size]? = some (.cells #[.int .i64 (x : Nat), .int .i64 (y : Nat)] 76 (0, 0)) := by simpa using hr.blk
  have z0 : W9.drew.cell? ⟨w.heap.size, 0, none⟩ = some (.int .i64 (x : Nat)) := by rw [cell_drew]; simp [World.cell?, hbk]
  have z1 : W9.drew.cell? ⟨w.heap.size, 1, none⟩ = some (.int .i64 (y : Nat)) := by rw [cell_drew]; simp [World.cell?, hbk]
  have HBX := Lib.hid hbr.drew
  clear hr hbr hbk
  go_wp2_with fail
  refine bodyPost_ret (v := .agg #[.int .i64 (x : Nat), .int .i64 (y : Nat)]) (by simp [results, Tryz.results53, go_sem, z0, z1]) rfl ⟨by rw [HGG.out, HXX.out, HYY.out], HBX.out⟩

/-! ### middle -/
theorem clone_is (A : Option Addr) (cap : Nat) (L : List Int) (w : World) (h : IsAt w A L) (h0 : 0 < L.length) (hl : L.length ≤ 1000) :
    Calls Tryz.prog 104 #[.slice A L.length cap] w fun e w' => ∃ v', e = .returned v' ∧ IntsOwn w' w.heap.size v' L ∧ Below w.heap.size w w' := by
  obtain ⟨g, off, rfl, hg, _⟩ := h 0 h0
  have hc : ∀ j, j < L.length → w.cell? ⟨g, off + j, none⟩ = some (.int .i64 (L.getD j 0)) := fun j hj => by
    obtain ⟨g', off', e, _, h3⟩ := h j hj
    injection e with e
    injection e with e1 e2
    subst e1 e2
    exact h3
  refine (Tryz.slices_Clone_int g off L.length cap L w (Nat.le_refl _) (by omega) hc).mono ?_
  rintro e w' ⟨v', rfl, ho, -, hb⟩
  rw [List.take_length] at ho
  exact ⟨v', rfl, ho, hb⟩
set_option maxRecDepth 100000 in
set_option maxHeartbeats 1000000 in
theorem middle_any (A : Option Addr) (cap : Nat) (L : List Int) (w : World) (h : IsAt w A L) (h0 : 0 < L.length) (hl : L.length ≤ 1000) (hr : ∀ x ∈ L, 0 ≤ x ∧ x ≤ 1000000) :
    Calls Tryz.prog 54 #[.slice A L.length cap] w fun e w' => e = .returned (.int .i64 (med L)) ∧ Below w.heap.size w w' := by
  have hcl := clone_is A cap L w h h0 hl
  have hM := med_range h0 hr
  have hm1 := hr _ (srt_mem (l := L) (i := (L.length - 1) / 2) (by omega))
  have hm2 := hr _ (srt_mem (l := L) (i := L.length / 2) (by omega))
  have HMED := Lib.hid (show med L = (srt L).getD ((L.length - 1) / 2) 0 + (srt L).getD (L.length / 2) 0 from rfl)
  clear h hr
  go_enter Tryz.func54, Tryz.ntmps54
  go_wp2_with fail
  refine hcl.mono ?_
  rintro e w1 ⟨v1, rfl, ho1, hb1⟩
  have hso := sort_own w.heap.size v1 L w1 ho1 (by omega)
  have HB1 := Lib.hid hb1
  have hlow : ∀ j, v1.ownBlock = some j → w.heap.size ≤ j := fun j hj => (ho1.lt j hj).1
  have HLOW := Lib.hid hlow
  clear hcl ho1 hb1 hlow
  go_wp2_with fail
  refine hso.mono ?_
  rintro e w2 ⟨rfl, ho2, hg2⟩
  have HB2 := Lib.hid (HB1.out.grown hg2 HB1.out.size (fun j hj => HLOW.out j hj))
  have ho2' : IntsOwn w2 w.heap.size v1 (srt L) := ho2
  obtain ⟨A2, c2, rfl, hat⟩ := is_of ho2'
  rw [srt_length] at *
  obtain ⟨g, off, rfl, hgB, c0⟩ := hat ((L.length - 1) / 2) (by rw [srt_length]; omega)
  obtain ⟨g', off', e', _, c1⟩ := hat (L.length / 2) (by rw [srt_length]; omega)
  injection e' with e'
  injection e' with e1 e2
  subst e1 e2
  clear hso ho2 ho2' hg2 HLOW HB1 hat
  have la : (L.length - 1) / 2 < L.length := by omega
  have lb : L.length / 2 < L.length := by omega
  have s0 : IntKind.i64.wrap ((L.length : Int) - 1) = (L.length : Int) - 1 := IntWalk.i64_in _ (by omega)
  have s1 : ((L.length : Int) - 1).tdiv 2 = (((L.length - 1) / 2 : Nat) : Int) := by rw [Int.tdiv_eq_ediv_of_nonneg (by omega)]; omega
  have s2 : (L.length : Int).tdiv 2 = ((L.length / 2 : Nat) : Int) := by rw [Int.tdiv_eq_ediv_of_nonneg (by omega)]; omega
  generalize hx : (srt L).getD ((L.length - 1) / 2) 0 = x at *
  generalize hy : (srt L).getD (L.length / 2) 0 = y at *
  have HMED' := HMED.out
  have HX := Lib.hid HMED'
  clear hx hy HMED HMED'
  generalize (L.length - 1) / 2 = a at *
  generalize L.length / 2 = b at *
  have s3 : IntKind.i64.wrap (a : Int) = (a : Int) := IntWalk.i64_in _ (by omega)
  have s4 : IntKind.i64.wrap (b : Int) = (b : Int) := IntWalk.i64_in _ (by omega)
  have s5 : IntKind.i64.wrap (x + y) = x + y := IntWalk.i64_in _ (by omega)
  have s6 : (a : Int) < (L.length : Int) := by omega
  have s7 : (b : Int) < (L.length : Int) := by omega
  have s8 : (1 : Int) ≤ (L.length : Int) := by omega
  generalize L.length = n at *
  go_wp2_with fail
  go_quiet (fail)
  go_wp2_with fail
  go_ret
  exact ⟨ret_eq HX.out.symm, ⟨HB2.out.os, HB2.out.tape, HB2.out.output, HB2.out.size, HB2.out.block⟩⟩

/-! ### Median -/
/-- m / d in lowest terms. -/
def fracV (m d : Nat) : Value := .agg #[.int .i64 (m / Nat.gcd m d : Nat), .int .i64 (d / Nat.gcd m d : Nat)]

set_option maxRecDepth 100000 in
set_option maxHeartbeats 1000000 in
theorem Median_any (A : Option Addr) (cap : Nat) (L : List Int) (w : World) (h : IsAt w A L) (h0 : 0 < L.length) (hl : L.length ≤ 1000) (hr : ∀ x ∈ L, 0 ≤ x ∧ x ≤ 1050) :
    Calls Tryz.prog 30 #[.slice A L.length cap] w fun e w' => e = .returned (.tuple #[fracV (med L).toNat 2, .int .i64 0]) ∧ Below w.heap.size w w' := by
  have hnf := fun W (hb : Below w.heap.size w W) => numbersFault_any A cap L W (h.below hb) h0 hl (fun x hx => by have := hr x hx; omega)
  have hmid := fun W (hb : Below w.heap.size w W) => middle_any A cap L W (h.below hb) h0 hl (fun x hx => by have := hr x hx; omega)
  have HR := Lib.hid (show 0 ≤ med L ∧ med L ≤ 2000000 from by have := med_range h0 hr; omega)
  have H1 := Lib.hid (heap_alloc_new w (.cells #[.int .i64 0, .int .i64 0] 76))
  have HB := Lib.hid ((Below.refl w.heap.size w).alloc (Nat.le_refl _) (.cells #[.int .i64 0, .int .i64 0] 76))
  have l1 := lt_of_block H1.out
  clear h hr
  go_enter Tryz.func30, Tryz.ntmps30
  go_wp2_with fail
  generalize World.alloc w _ = W0 at *
  refine (hnf W0 HB.out).mono ?_
  rintro e W1 ⟨rfl, hb1⟩
  have H1 := Lib.hid ((hb1.block _ l1).trans H1.out)
  have HB := Lib.hid (HB.out.trans (hb1.mono HB.out.size))
  have l1 := lt_of_block H1.out
  clear hnf hb1
  go_wp2_with fail
  refine (hmid W1 HB.out).mono ?_
  rintro e W2 ⟨rfl, hb2⟩
  have H1 := Lib.hid ((hb2.block _ l1).trans H1.out)
  have HB := Lib.hid (HB.out.trans (hb2.mono HB.out.size))
  have l1 := lt_of_block H1.out
  clear hmid hb2
  obtain ⟨m, hm⟩ : ∃ m : Nat, med L = m := ⟨(med L).toNat, by have := HR.out; omega⟩
  have hml : m ≤ 2000000 := by have := HR.out; omega
  have HM := Lib.hid hm
  rw [hm]
  clear hm
  go_wp2_with fail
  refine (lowest_any m 2 W2 (by omega) (by omega) (by omega)).mono ?_
  rintro e W3 ⟨rfl, hb3⟩
  have H1 := Lib.hid ((hb3.block _ l1).trans H1.out)
  have HB := Lib.hid (HB.out.trans (hb3.mono HB.out.size))
  have l1 := lt_of_block H1.out
  clear hb3
  have HF := Lib.hid (show fracV (med L).toNat 2 = .agg #[.int .i64 (m / Nat.gcd m 2 : Nat), .int .i64 (2 / Nat.gcd m 2 : Nat)] from by rw [HM.out]; rfl)
  generalize m / Nat.gcd m 2 = x at *
  generalize 2 / Nat.gcd m 2 = y at *
  have c0 := cell_of H1.out 0
  have c1 := cell_of H1.out 1
  simp only [List.getElem?_toArray, List.getElem?_cons_zero, List.getElem?_cons_succ] at c0 c1
  have f0 : W3.frozen? ⟨w.heap.size, 0, none⟩ = false := by simp [World.frozen?, H1.out]
  have f1 : W3.frozen? ⟨w.heap.size, 1, none⟩ = false := by simp [World.frozen?, H1.out]
  go_wp2_with fail
  clear c0 c1 f0 f1
  have hr := ((Re.refl H1.out).set 0 (.int .i64 (x : Nat))).set 1 (.int .i64 (y : Nat))
  have hbr := hr.below HB.out (Nat.le_refl _)
  generalize hW : World.setCell _ _ _ = W9
  rw [hW] at hr hbr
  clear hW
  have hbk : W9.heap[w.heap.size]? = some (.cells #[.int .i64 (x : Nat), .int .i64 (y : Nat)] 76 (0, 0)) := by simpa using hr.blk
  have z0 : W9.cell? ⟨w.heap.size, 0, none⟩ = some (.int .i64 (x : Nat)) := by simp [World.cell?, hbk]
  have z1 : W9.cell? ⟨w.heap.size, 1, none⟩ = some (.int .i64 (y : Nat)) := by simp [World.cell?, hbk]
  refine bodyPost_ret (v := .tuple #[.agg #[.int .i64 (x : Nat), .int .i64 (y : Nat)], .int .i64 0]) (by simp [results, Tryz.results30, go_sem, z0, z1]) rfl ⟨by rw [HF.out], hbr⟩

end Go.Proofs.YtpbcbgoenoolfaaGreatDoor
