/- kit.Gcd, Lowest; flow.middle, spread, Median, Spread. -/
import Derived.Test.YthfponfhmdbbpaaGreatDoorMdB
import Derived.Deep.RegionHeld3
import Derived.OwnWalk
namespace Go.Proofs.YthfponfhmdbbpaaGreatDoor
open Go.RowKit Go.Hw Go.Shelf

set_option maxRecDepth 100000 in
set_option maxHeartbeats 1000000 in
theorem gcd_any (a b : Nat) (w : World) (ha : a ≤ 1000000000000000) (hb : b ≤ 1000000000000000) :
    Calls Tryz.prog 21 #[.int .i64 a, .int .i64 b] w fun e w' => e = .returned (.int .i64 (Nat.gcd a b : Nat)) ∧ Below w.heap.size w w' := by
  go_enter Tryz.func21, Tryz.ntmps21
  go_wp2_with fail
  go_loopw [0, 1] (fun v0 v1 wr => ∃ x y : Nat, v0 = .int .i64 x ∧ v1 = .int .i64 y ∧ Nat.gcd x y = Nat.gcd a b ∧ x ≤ 1000000000000000 ∧ y ≤ 1000000000000000 ∧ Below w.heap.size w wr) (fun _ v1 _ => (intOf v1).toNat)
  case atStart => exact ⟨a, b, rfl, rfl, rfl, ha, hb, Below.refl _ _⟩
  case round =>
    obtain ⟨x, y, rfl, rfl, hg, hx, hy, hb1⟩ := hrel
    by_cases hz : y = 0
    · subst hz
      have hg' : x = Nat.gcd a b := by rw [← hg]; simp
      have HG := Lib.hid hg'
      have s0 : IntKind.i64.wrap (-(x : Int)) = -(x : Int) := IntWalk.i64_in _ (by omega)
      have s1 : max (x : Int) (-(x : Int)) = x := by omega
      clear hg hg'
      go_wp2_with fail
      go_ret
      exact ⟨(by rw [← HG.out]; rfl), hb1⟩
    · have hz1 : ((y : Int) != 0) = true := by simpa using hz
      have hz2 : (y : Int) ≠ 0 := by omega
      have hz3 : ((y : Int) == 0) = false := by rw [beq_eq_false_iff_ne]; exact hz2
      have hm : (x : Int).tmod (y : Int) = ((x % y : Nat) : Int) := (Int.ofNat_tmod x y).symm
      have hlt : x % y < y := Nat.mod_lt _ (by omega)
      have s0 : IntKind.i64.wrap ((x % y : Nat) : Int) = ((x % y : Nat) : Int) := IntWalk.i64_in _ (by omega)
      have HN := Lib.hid (show Nat.gcd y (x % y) = Nat.gcd a b from by rw [← hg, Nat.gcd_comm x y, Nat.gcd_rec y x, Nat.gcd_comm])
      have HB := Lib.hid hb1
      clear hg hb1
      generalize x % y = r at *
      go_wp2_with fail
      go_quiet (fail)
      go_wp2_with fail
      go_roundw
      case rel => exact ⟨y, r, rfl, rfl, HN.out, by omega, by omega, ⟨HB.out.os, HB.out.tape, HB.out.output, HB.out.size, HB.out.block⟩⟩
      case measure => simp [intOf]; omega

set_option maxRecDepth 100000 in
set_option maxHeartbeats 1000000 in
theorem lowest_any (n d : Nat) (w : World) (hn : n ≤ 1000000000000000) (hd : d ≤ 1000) (hd0 : 0 < d) :
    Calls Tryz.prog 10 #[.int .i64 n, .int .i64 d] w fun e w' => e = .returned (.agg #[.int .i64 (n / Nat.gcd n d : Nat), .int .i64 (d / Nat.gcd n d : Nat)]) ∧ Below w.heap.size w w' := by
  have hg0 : 0 < Nat.gcd n d := Nat.gcd_pos_of_pos_right n hd0
  have hgd : Nat.gcd n d ≤ d := Nat.gcd_le_right n hd0
  have hr := heap_alloc_new w (.cells #[.int .i64 0, .int .i64 0] 28)
  have HR := Lib.hid hr
  have HB := Lib.hid ((Below.refl w.heap.size w).alloc (Nat.le_refl _) (.cells #[.int .i64 0, .int .i64 0] 28))
  have hlt := lt_of_block hr
  have hd1 : decide ((d : Int) < 0) = false := by simp
  clear hr
  have hgc := fun W => gcd_any n d W hn (by omega)
  go_enter Tryz.func10, Tryz.ntmps10
  go_wp2_with fail
  generalize World.alloc w _ = W0 at *
  refine (hgc W0).mono ?_
  rintro e W1 ⟨rfl, hb1⟩
  have hr1 := (hb1.block _ hlt).trans HR.out
  have HR1 := Lib.hid hr1
  have HB1 := Lib.hid (HB.out.trans (hb1.mono HB.out.size))
  have hlt1 := lt_of_block hr1
  have c0 := cell_of hr1 0
  have c1 := cell_of hr1 1
  simp only [List.getElem?_toArray, List.getElem?_cons_zero, List.getElem?_cons_succ] at c0 c1
  have f0 : W1.frozen? ⟨w.heap.size, 0, none⟩ = false := by simp [World.frozen?, hr1]
  have f1 : W1.frozen? ⟨w.heap.size, 1, none⟩ = false := by simp [World.frozen?, hr1]
  generalize hgg : Nat.gcd n d = g at *
  have HGG := Lib.hid hgg
  clear hgg
  have q0 : ((g : Int) == 0) = false := by rw [beq_eq_false_iff_ne]; omega
  have q1 : (g : Int) ≠ 0 := by omega
  have t1 : (n : Int).tdiv (g : Int) = ((n / g : Nat) : Int) := (Int.ofNat_tdiv n g).symm
  have t2 : (d : Int).tdiv (g : Int) = ((d / g : Nat) : Int) := (Int.ofNat_tdiv d g).symm
  have hle1 : n / g ≤ n := Nat.div_le_self _ _
  have hle2 : d / g ≤ d := Nat.div_le_self _ _
  generalize hxx : n / g = x at *
  generalize hyy : d / g = y at *
  have HXX := Lib.hid hxx
  have HYY := Lib.hid hyy
  clear hxx hyy
  have s1 : IntKind.i64.wrap (x : Int) = (x : Int) := IntWalk.i64_in _ (by omega)
  have s2 : IntKind.i64.wrap (y : Int) = (y : Int) := IntWalk.i64_in _ (by omega)
  clear hgc hb1 hr1 HR HB hlt
  go_wp2_with fail
  go_region
  clear c0 c1 f0 f1
  have hr := ((Re.refl HR1.out).set 0 (.int .i64 (x : Nat))).set 1 (.int .i64 (y : Nat))
  have hbr := hr.below HB1.out (Nat.le_refl _)
  generalize hW : World.setCell _ _ _ = W9
  rw [hW] at hr hbr
  clear hW
  have hbk : W9.heap[w.heap.size]? = some (.cells #[.int .i64 (x : Nat), .int .i64 (y : Nat)] 28 (0, 0)) := by simpa using hr.blk
  have z0 : W9.drew.cell? ⟨w.heap.size, 0, none⟩ = some (.int .i64 (x : Nat)) := by rw [cell_drew]; simp [World.cell?, hbk]
  have z1 : W9.drew.cell? ⟨w.heap.size, 1, none⟩ = some (.int .i64 (y : Nat)) := by rw [cell_drew]; simp [World.cell?, hbk]
  have HBX := Lib.hid hbr.drew
  clear hr hbr hbk
  go_wp2_with fail
  refine bodyPost_ret (v := .agg #[.int .i64 (x : Nat), .int .i64 (y : Nat)]) (by simp [results, Tryz.results10, go_sem, z0, z1]) rfl ⟨by rw [HGG.out, HXX.out, HYY.out], HBX.out⟩

/-! ### middle -/
theorem clone_is (A : Option Addr) (cap : Nat) (L : List Int) (w : World) (h : IsAt w A L) (h0 : 0 < L.length) (hl : L.length ≤ 1000) :
    Calls Tryz.prog 22 #[.slice A L.length cap] w fun e w' => ∃ v', e = .returned v' ∧ IntsOwn w' w.heap.size v' L ∧ Below w.heap.size w w' := by
  obtain ⟨g, off, rfl, hg, _⟩ := h 0 h0
  have hc : ∀ j, j < L.length → w.cell? ⟨g, off + j, none⟩ = some (.int .i64 (L.getD j 0)) := fun j hj => by
    obtain ⟨g', off', e, _, h3⟩ := h j hj
    injection e with e
    injection e with e1 e2
    subst e1 e2
    exact h3
  refine (Tryz.slices_Clone_int g off L.length cap L w (Nat.le_refl _) (by omega) hc).mono ?_
  rintro e w' ⟨v', rfl, ho, -, hb⟩
  rw [List.take_length] at ho
  exact ⟨v', rfl, ho, hb⟩
set_option maxRecDepth 100000 in
set_option maxHeartbeats 1000000 in
theorem middle_any (A : Option Addr) (cap : Nat) (L : List Int) (w : World) (h : IsAt w A L) (h0 : 0 < L.length) (hl : L.length ≤ 1000) (hr : ∀ x ∈ L, 0 ≤ x ∧ x ≤ 1000000) :
    Calls Tryz.prog 11 #[.slice A L.length cap] w fun e w' => e = .returned (.int .i64 (med L)) ∧ Below w.heap.size w w' := by
  have hcl := clone_is A cap L w h h0 hl
  have hM := med_range h0 hr
  have hm1 := hr _ (srt_mem (l := L) (i := (L.length - 1) / 2) (by omega))
  have hm2 := hr _ (srt_mem (l := L) (i := L.length / 2) (by omega))
  have HMED := Lib.hid (show med L = (srt L).getD ((L.length - 1) / 2) 0 + (srt L).getD (L.length / 2) 0 from rfl)
  clear h hr
  go_enter Tryz.func11, Tryz.ntmps11
  go_wp2_with fail
  refine hcl.mono ?_
  rintro e w1 ⟨v1, rfl, ho1, hb1⟩
  have hso := sort_own w.heap.size v1 L w1 ho1 (by omega)
  have HB1 := Lib.hid hb1
  have hlow : ∀ j, v1.ownBlock = some j → w.heap.size ≤ j := fun j hj => (ho1.lt j hj).1
  have HLOW := Lib.hid hlow
  clear hcl ho1 hb1 hlow
  go_wp2_with fail
  refine hso.mono ?_
  rintro e w2 ⟨rfl, ho2, hg2⟩
  have HB2 := Lib.hid (HB1.out.grown hg2 HB1.out.size (fun j hj => HLOW.out j hj))
  have ho2' : IntsOwn w2 w.heap.size v1 (srt L) := ho2
  obtain ⟨A2, c2, rfl, hat⟩ := is_of ho2'
  rw [srt_length] at *
  obtain ⟨g, off, rfl, hgB, c0⟩ := hat ((L.length - 1) / 2) (by rw [srt_length]; omega)
  obtain ⟨g', off', e', _, c1⟩ := hat (L.length / 2) (by rw [srt_length]; omega)
  injection e' with e'
  injection e' with e1 e2
  subst e1 e2
  clear hso ho2 ho2' hg2 HLOW HB1 hat
  have la : (L.length - 1) / 2 < L.length := by omega
  have lb : L.length / 2 < L.length := by omega
  have s0 : IntKind.i64.wrap ((L.length : Int) - 1) = (L.length : Int) - 1 := IntWalk.i64_in _ (by omega)
  have s1 : ((L.length : Int) - 1).tdiv 2 = (((L.length - 1) / 2 : Nat) : Int) := by rw [Int.tdiv_eq_ediv_of_nonneg (by omega)]; omega
  have s2 : (L.length : Int).tdiv 2 = ((L.length / 2 : Nat) : Int) := by rw [Int.tdiv_eq_ediv_of_nonneg (by omega)]; omega
  generalize hx : (srt L).getD ((L.length - 1) / 2) 0 = x at *
  generalize hy : (srt L).getD (L.length / 2) 0 = y at *
  have HMED' := HMED.out
  have HX := Lib.hid HMED'
  clear hx hy HMED HMED'
  generalize (L.length - 1) / 2 = a at *
  generalize L.length / 2 = b at *
  have s3 : IntKind.i64.wrap (a : Int) = (a : Int) := IntWalk.i64_in _ (by omega)
  have s4 : IntKind.i64.wrap (b : Int) = (b : Int) := IntWalk.i64_in _ (by omega)
  have s5 : IntKind.i64.wrap (x + y) = x + y := IntWalk.i64_in _ (by omega)
  have s6 : (a : Int) < (L.length : Int) := by omega
  have s7 : (b : Int) < (L.length : Int) := by omega
  have s8 : (1 : Int) ≤ (L.length : Int) := by omega
  generalize L.length = n at *
  go_wp2_with fail
  go_quiet (fail)
  go_wp2_with fail
  go_ret
  exact ⟨ret_eq HX.out.symm, ⟨HB2.out.os, HB2.out.tape, HB2.out.output, HB2.out.size, HB2.out.block⟩⟩

/-! ### spread, Median, Spread -/
theorem offs_range {L : List Int} (h0 : 0 < L.length) (hr : ∀ x ∈ L, 0 ≤ x ∧ x ≤ 1050) : ∀ x ∈ offs L, 0 ≤ x ∧ x ≤ 1000000 := by
  intro x hx
  obtain ⟨n, hn, rfl⟩ := List.mem_map.1 hx
  have := hr n hn
  have := med_range h0 hr
  omega
/-- Ahead of round k. -/
def SpI (w1 : World) (L : List Int) (v4 v11 : Value) (wr : World) : Prop :=
  ∃ (k : Nat) (sv : Value), sv = v4 ∧ v11 = .int .i64 k ∧ k ≤ L.length ∧ IntsOwn wr w1.heap.size sv ((offs L).take k) ∧ Below w1.heap.size w1 wr
set_option maxRecDepth 100000 in
set_option maxHeartbeats 1000000 in
theorem spread_any (A : Option Addr) (cap : Nat) (L : List Int) (w : World) (h : IsAt w A L) (h0 : 0 < L.length) (hl : L.length ≤ 1000) (hr : ∀ x ∈ L, 0 ≤ x ∧ x ≤ 1050) :
    Calls Tryz.prog 12 #[.slice A L.length cap] w fun e w' => e = .returned (.int .i64 (med (offs L))) ∧ Below w.heap.size w w' := by
  obtain ⟨i0, hi, hz0, hz1, hz2⟩ := info_parts Tryz.infoInt
  have hmid := middle_any A cap L w h h0 hl (fun x hx => by have := hr x hx; omega)
  have hM := med_range h0 hr
  have HOR := Lib.hid (offs_range h0 hr)
  have HL := Lib.hid h
  have HR := Lib.hid hr
  have hol : (offs L).length = L.length := by unfold offs; simp
  have HOL := Lib.hid hol
  have HOG := Lib.hid (fun (k : Nat) (hk : k < L.length) => (show (offs L).take (k + 1) = (offs L).take k ++ [max (2 * L.getD k 0 - med L) (med L - 2 * L.getD k 0)] from by
    rw [List.take_succ_eq_append_getElem (by rw [hol]; exact hk)]
    unfold offs
    simp [List.getElem?_eq_getElem hk]))
  clear h hr hol
  go_enter Tryz.func12, Tryz.ntmps12
  go_wp2_with fail
  refine hmid.mono ?_
  rintro e w1 ⟨rfl, hb1⟩
  have HL1 := Lib.hid (HL.out.below hb1)
  have HB1 := Lib.hid hb1
  clear hmid hb1 HL
  generalize hMM : med L = M at *
  have HMM := Lib.hid hMM
  clear hMM
  go_wp2_with fail
  go_loopw [4, 11] (fun v4 v11 wr => SpI w1 L v4 v11 wr) (fun _ v11 _ => L.length - (intOf v11).toNat)
  case atStart => exact ⟨0, _, rfl, rfl, by omega, World.ownsRow_nil _ _ _ _, Below.refl _ _⟩
  case round =>
    obtain ⟨k, sv, rfl, rfl, hk, ho, hb⟩ := hrel
    by_cases hlt : k < L.length
    · obtain ⟨g, off, rfl, hgB, c0⟩ := (HL1.out.below hb) k hlt
      have hx := HR.out _ (rw_mem (d := (0 : Int)) hlt)
      have HN := Lib.hid (HOG.out k hlt)
      have hd : decide ((k : Int) < (L.length : Int)) = true := by simp; omega
      have HO := Lib.hid ho
      have HB := Lib.hid hb
      have hlen : ((offs L).take k).length = k := by rw [List.length_take, HOL.out]; omega
      have HLEN := Lib.hid hlen
      clear ho hb hlen
      generalize L.getD k 0 = x at *
      have s0 : IntKind.i64.wrap (2 * x) = 2 * x := IntWalk.i64_in _ (by omega)
      have s1 : IntKind.i64.wrap (2 * x - M) = 2 * x - M := IntWalk.i64_in _ (by omega)
      have s2 : IntKind.i64.wrap (M - 2 * x) = M - 2 * x := IntWalk.i64_in _ (by omega)
      have hbs := HB.out.size
      go_wp2_with (at_builtin; refine wpList_append_own _ rfl (.tmp 15) (.tmp 25) 22 rfl w1.heap.size 3 i0 (.int .i64 0) 1 8 Tryz.underlying22 hi hz0 hz1 hz2 rfl (by decide) _ _ _ rfl (World.ownsRow.alloc HO.out _) ⟨wr.heap.size, 0, none⟩ 1 1 [.int .i64 (max (2 * x - M) (M - 2 * x))] rfl rfl ?a1 ?a2 ?a3 ?a4 ?a5 ?_)
      case a1 => exact cells_new wr [.int .i64 (max (2 * x - M) (M - 2 * x))] _
      case a2 => simp [Value.oneCell']
      case a3 => rw [HLEN.out]; unfold maxLen; omega
      case a4 => rw [HLEN.out]; omega
      case a5 => simp; omega
      intro v3 w3 ho3 hg3 _
      have hown : IntsOwn w3 w1.heap.size v3 ((offs L).take (k + 1)) := by
        rw [HN.out]
        unfold IntsOwn
        rw [List.map_append, List.length_append]
        simpa [List.map_take] using ho3
      have HN3 := Lib.hid (show SpI w1 L v3 (.int .i64 ((k + 1 : Nat) : Int)) w3 from ⟨k + 1, v3, rfl, rfl, hlt, hown, (HB.out.alloc hbs _).grown hg3 (by simp; omega) (fun j hj => (HO.out.lt j hj).1)⟩)
      clear ho3 hg3 hown HO HB
      go_wp2_with fail
      go_roundw
      case rel => exact HN3.out
      case measure => simp [intOf]; omega
    · have : k = L.length := by omega
      subst this
      rw [List.take_of_length_le (by rw [HOL.out]; omega)] at ho
      obtain ⟨A2, c2, rfl, hat⟩ := is_of ho
      have hm2 := middle_any A2 c2 (offs L) wr hat (by rw [HOL.out]; exact h0) (by rw [HOL.out]; exact hl) HOR.out
      have HB2 := Lib.hid (HB1.out.trans (hb.mono HB1.out.size))
      have hd : decide ((L.length : Int) < (L.length : Int)) = false := by simp
      clear ho hb hat
      generalize hmo : med (offs L) = mo at *
      have HMO := Lib.hid hmo
      clear hmo
      go_wp2_with fail
      refine hm2.mono ?_
      rintro e w5 ⟨rfl, hb5⟩
      have HB5 := Lib.hid (HB2.out.trans (hb5.mono HB2.out.size))
      clear hm2 hb5
      go_wp2_with fail
      go_ret
      exact ⟨ret_eq HMO.out.symm, HB5.out⟩
/-- m / d in lowest terms. -/
def fracV (m d : Nat) : Value := .agg #[.int .i64 (m / Nat.gcd m d : Nat), .int .i64 (d / Nat.gcd m d : Nat)]

set_option maxRecDepth 100000 in
set_option maxHeartbeats 1000000 in
theorem Median_any (A : Option Addr) (cap : Nat) (L : List Int) (w : World) (h : IsAt w A L) (h0 : 0 < L.length) (hl : L.length ≤ 1000) (hr : ∀ x ∈ L, 0 ≤ x ∧ x ≤ 1050) :
    Calls Tryz.prog 5 #[.slice A L.length cap] w fun e w' => e = .returned (.tuple #[fracV (med L).toNat 2, .int .i64 0]) ∧ Below w.heap.size w w' := by
  have hnf := fun W (hb : Below w.heap.size w W) => numbersFault_any A cap L W (h.below hb) h0 hl (fun x hx => by have := hr x hx; omega)
  have hmid := fun W (hb : Below w.heap.size w W) => middle_any A cap L W (h.below hb) h0 hl (fun x hx => by have := hr x hx; omega)
  have HR := Lib.hid (show 0 ≤ med L ∧ med L ≤ 2000000 from by have := med_range h0 hr; omega)
  have H1 := Lib.hid (heap_alloc_new w (.cells #[.int .i64 0, .int .i64 0] 28))
  have HB := Lib.hid ((Below.refl w.heap.size w).alloc (Nat.le_refl _) (.cells #[.int .i64 0, .int .i64 0] 28))
  have l1 := lt_of_block H1.out
  clear h hr
  go_enter Tryz.func5, Tryz.ntmps5
  go_wp2_with fail
  generalize World.alloc w _ = W0 at *
  refine (hnf W0 HB.out).mono ?_
  rintro e W1 ⟨rfl, hb1⟩
  have H1 := Lib.hid ((hb1.block _ l1).trans H1.out)
  have HB := Lib.hid (HB.out.trans (hb1.mono HB.out.size))
  have l1 := lt_of_block H1.out
  clear hnf hb1
  go_wp2_with fail
  refine (hmid W1 HB.out).mono ?_
  rintro e W2 ⟨rfl, hb2⟩
  have H1 := Lib.hid ((hb2.block _ l1).trans H1.out)
  have HB := Lib.hid (HB.out.trans (hb2.mono HB.out.size))
  have l1 := lt_of_block H1.out
  clear hmid hb2
  obtain ⟨m, hm⟩ : ∃ m : Nat, med L = m := ⟨(med L).toNat, by have := HR.out; omega⟩
  have hml : m ≤ 2000000 := by have := HR.out; omega
  have HM := Lib.hid hm
  rw [hm]
  clear hm
  go_wp2_with fail
  refine (lowest_any m 2 W2 (by omega) (by omega) (by omega)).mono ?_
  rintro e W3 ⟨rfl, hb3⟩
  have H1 := Lib.hid ((hb3.block _ l1).trans H1.out)
  have HB := Lib.hid (HB.out.trans (hb3.mono HB.out.size))
  have l1 := lt_of_block H1.out
  clear hb3
  have HF := Lib.hid (show fracV (med L).toNat 2 = .agg #[.int .i64 (m / Nat.gcd m 2 : Nat), .int .i64 (2 / Nat.gcd m 2 : Nat)] from by rw [HM.out]; rfl)
  generalize m / Nat.gcd m 2 = x at *
  generalize 2 / Nat.gcd m 2 = y at *
  have c0 := cell_of H1.out 0
  have c1 := cell_of H1.out 1
  simp only [List.getElem?_toArray, List.getElem?_cons_zero, List.getElem?_cons_succ] at c0 c1
  have f0 : W3.frozen? ⟨w.heap.size, 0, none⟩ = false := by simp [World.frozen?, H1.out]
  have f1 : W3.frozen? ⟨w.heap.size, 1, none⟩ = false := by simp [World.frozen?, H1.out]
  go_wp2_with fail
  clear c0 c1 f0 f1
  have hr := ((Re.refl H1.out).set 0 (.int .i64 (x : Nat))).set 1 (.int .i64 (y : Nat))
  have hbr := hr.below HB.out (Nat.le_refl _)
  generalize hW : World.setCell _ _ _ = W9
  rw [hW] at hr hbr
  clear hW
  have hbk : W9.heap[w.heap.size]? = some (.cells #[.int .i64 (x : Nat), .int .i64 (y : Nat)] 28 (0, 0)) := by simpa using hr.blk
  have z0 : W9.cell? ⟨w.heap.size, 0, none⟩ = some (.int .i64 (x : Nat)) := by simp [World.cell?, hbk]
  have z1 : W9.cell? ⟨w.heap.size, 1, none⟩ = some (.int .i64 (y : Nat)) := by simp [World.cell?, hbk]
  refine bodyPost_ret (v := .tuple #[.agg #[.int .i64 (x : Nat), .int .i64 (y : Nat)], .int .i64 0]) (by simp [results, Tryz.results5, go_sem, z0, z1]) rfl ⟨by rw [HF.out], hbr⟩

set_option maxRecDepth 100000 in
set_option maxHeartbeats 1000000 in
theorem Spread_any (A : Option Addr) (cap : Nat) (L : List Int) (w : World) (h : IsAt w A L) (h0 : 0 < L.length) (hl : L.length ≤ 1000) (hr : ∀ x ∈ L, 0 ≤ x ∧ x ≤ 1050) :
    Calls Tryz.prog 6 #[.slice A L.length cap] w fun e w' => e = .returned (.tuple #[fracV (med (offs L)).toNat 4, .int .i64 0]) ∧ Below w.heap.size w w' := by
  have hnf := fun W (hb : Below w.heap.size w W) => numbersFault_any A cap L W (h.below hb) h0 hl (fun x hx => by have := hr x hx; omega)
  have hmid := fun W (hb : Below w.heap.size w W) => spread_any A cap L W (h.below hb) h0 hl hr
  have HR := Lib.hid (show 0 ≤ med (offs L) ∧ med (offs L) ≤ 2000000 from by have := med_range (l := offs L) (by unfold offs; simpa using h0) (offs_range h0 hr); omega)
  have H1 := Lib.hid (heap_alloc_new w (.cells #[.int .i64 0, .int .i64 0] 28))
  have HB := Lib.hid ((Below.refl w.heap.size w).alloc (Nat.le_refl _) (.cells #[.int .i64 0, .int .i64 0] 28))
  have l1 := lt_of_block H1.out
  clear h hr
  go_enter Tryz.func6, Tryz.ntmps6
  go_wp2_with fail
  generalize World.alloc w _ = W0 at *
  refine (hnf W0 HB.out).mono ?_
  rintro e W1 ⟨rfl, hb1⟩
  have H1 := Lib.hid ((hb1.block _ l1).trans H1.out)
  have HB := Lib.hid (HB.out.trans (hb1.mono HB.out.size))
  have l1 := lt_of_block H1.out
  clear hnf hb1
  go_wp2_with fail
  refine (hmid W1 HB.out).mono ?_
  rintro e W2 ⟨rfl, hb2⟩
  have H1 := Lib.hid ((hb2.block _ l1).trans H1.out)
  have HB := Lib.hid (HB.out.trans (hb2.mono HB.out.size))
  have l1 := lt_of_block H1.out
  clear hmid hb2
  obtain ⟨m, hm⟩ : ∃ m : Nat, med (offs L) = m := ⟨(med (offs L)).toNat, by have := HR.out; omega⟩
  have hml : m ≤ 2000000 := by have := HR.out; omega
  have HM := Lib.hid hm
  rw [hm]
  clear hm
  go_wp2_with fail
  refine (lowest_any m 4 W2 (by omega) (by omega) (by omega)).mono ?_
  rintro e W3 ⟨rfl, hb3⟩
  have H1 := Lib.hid ((hb3.block _ l1).trans H1.out)
  have HB := Lib.hid (HB.out.trans (hb3.mono HB.out.size))
  have l1 := lt_of_block H1.out
  clear hb3
  have HF := Lib.hid (show fracV (med (offs L)).toNat 4 = .agg #[.int .i64 (m / Nat.gcd m 4 : Nat), .int .i64 (4 / Nat.gcd m 4 : Nat)] from by rw [HM.out]; rfl)
  generalize m / Nat.gcd m 4 = x at *
  generalize 4 / Nat.gcd m 4 = y at *
  have c0 := cell_of H1.out 0
  have c1 := cell_of H1.out 1
  simp only [List.getElem?_toArray, List.getElem?_cons_zero, List.getElem?_cons_succ] at c0 c1
  have f0 : W3.frozen? ⟨w.heap.size, 0, none⟩ = false := by simp [World.frozen?, H1.out]
  have f1 : W3.frozen? ⟨w.heap.size, 1, none⟩ = false := by simp [World.frozen?, H1.out]
  go_wp2_with fail
  clear c0 c1 f0 f1
  have hr := ((Re.refl H1.out).set 0 (.int .i64 (x : Nat))).set 1 (.int .i64 (y : Nat))
  have hbr := hr.below HB.out (Nat.le_refl _)
  generalize hW : World.setCell _ _ _ = W9
  rw [hW] at hr hbr
  clear hW
  have hbk : W9.heap[w.heap.size]? = some (.cells #[.int .i64 (x : Nat), .int .i64 (y : Nat)] 28 (0, 0)) := by simpa using hr.blk
  have z0 : W9.cell? ⟨w.heap.size, 0, none⟩ = some (.int .i64 (x : Nat)) := by simp [World.cell?, hbk]
  have z1 : W9.cell? ⟨w.heap.size, 1, none⟩ = some (.int .i64 (y : Nat)) := by simp [World.cell?, hbk]
  refine bodyPost_ret (v := .tuple #[.agg #[.int .i64 (x : Nat), .int .i64 (y : Nat)], .int .i64 0]) (by simp [results, Tryz.results6, go_sem, z0, z1]) rfl ⟨by rw [HF.out], hbr⟩
end Go.Proofs.YthfponfhmdbbpaaGreatDoor
