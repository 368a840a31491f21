/- The plain law of medians: at most half of some numbers lie on each side, and numbers that are moved have it moved. Numbers in memory: slices.IndexFunc, ContainsFunc, Clone; kit.Gcd, Lowest; flow.numbersFault. kit.Gcd, Lowest; flow.middle, Median. lanekeep2's ready() is true. -/
import Derived.WalkKit
import Derived.Test.YtajifionclpphaaGreatDoorAdS
import Derived.Test.YtajifionclpphaaGreatDoorAdR
import Derived.Test.YtajifionclpphaaGreatDoorKey2
import Derived.Deep.RegionHeld3
import Derived.OwnWalk
import Derived.Test.YtajifionclpphaaGreatDoorRyE
import Derived.Test.YtajifionclpphaaGreatDoorPjB
namespace Go.Hw

/-- Numbers in order. -/
def srt (l : List Int) : List Int := l.mergeSort (fun x y => decide (x ≤ y))
theorem srt_sorted (l : List Int) : (srt l).Pairwise (· ≤ ·) := by
  have := List.pairwise_mergeSort (le := fun x y : Int => decide (x ≤ y)) (fun a b c h k => by simp at *; omega) (fun a b => by simp; omega) l
  exact this.imp fun h => by simpa using h
theorem srt_perm (l : List Int) : (srt l).Perm l := List.mergeSort_perm l _
theorem srt_length (l : List Int) : (srt l).length = l.length := List.length_mergeSort l
theorem srt_uniq {l s : List Int} (hs : s.Pairwise (· ≤ ·)) (hp : s.Perm l) : srt l = s :=
  ((srt_perm l).trans hp.symm).eq_of_pairwise (le := fun x y : Int => x ≤ y) (fun _ _ _ _ h k => Int.le_antisymm h k) (srt_sorted l) hs
/-- Twice the median. -/
def med (l : List Int) : Int := (srt l).getD ((l.length - 1) / 2) 0 + (srt l).getD (l.length / 2) 0
theorem getD_srt {l : List Int} {i : Nat} (h : i < l.length) : (srt l).getD i 0 = (srt l)[i]'(by rw [srt_length]; exact h) := by
  rw [List.getD_eq_getElem?_getD, List.getElem?_eq_getElem (by rw [srt_length]; exact h)]; rfl
theorem srt_mem {l : List Int} {i : Nat} (h : i < l.length) : (srt l).getD i 0 ∈ l := by
  rw [getD_srt h]
  exact (srt_perm l).mem_iff.1 (List.getElem_mem _)
/-- The median lies between two bounds. -/
theorem med_range {l : List Int} {a b : Int} (hl : 0 < l.length) (h : ∀ x ∈ l, a ≤ x ∧ x ≤ b) : 2 * a ≤ med l ∧ med l ≤ 2 * b := by
  have h1 := h _ (srt_mem (l := l) (i := (l.length - 1) / 2) (by omega))
  have h2 := h _ (srt_mem (l := l) (i := l.length / 2) (by omega))
  unfold med
  omega
end Go.Hw

namespace Go.Proofs.YtajifionclpphaaGreatDoor
open Go.RowKit Go.Hw Go.Shelf

def IsAt (w : World) (A : Option Addr) (L : List Int) : Prop := ∀ i, i < L.length → ∃ g off, A = some ⟨g, off, none⟩ ∧ g < w.heap.size ∧ w.cell? ⟨g, off + i, none⟩ = some (.int .i64 (L.getD i 0))
theorem IsAt.below {w w' : World} {A : Option Addr} {L : List Int} (h : IsAt w A L) (hb : Below w.heap.size w w') : IsAt w' A L := fun i hi =>
  let ⟨g, off, h1, h2, h3⟩ := h i hi
  ⟨g, off, h1, Nat.lt_of_lt_of_le h2 hb.size, (hb.cell (p := ⟨g, _, none⟩) h2).trans h3⟩
theorem is_of {w : World} {base : Nat} {v : Value} {zs : List Int} (h : IntsOwn w base v zs) : ∃ A cap, v = .slice A zs.length cap ∧ IsAt w A zs := by
  obtain ⟨A, cap, rfl, h1, -⟩ := ints_at h
  refine ⟨A, cap, rfl, fun i hi => ?_⟩
  obtain ⟨g, h2, h3, h4⟩ := h1 i hi
  exact ⟨g, 0, h2, h3, by rw [Nat.zero_add]; exact h4⟩

/-- What is asked of a closure over numbers. -/
def isPred (g : Nat) (lb : Array Value) (p : Int → Bool) (L : List Int) (w : World) : Prop :=
  ∀ (W : World) (e : Int), e ∈ L → Below w.heap.size w W → Calls Tryz.prog g (#[.int .i64 e] ++ lb) W fun en w' => en = .returned (.bool (p e)) ∧ Below W.heap.size W w'
set_option maxRecDepth 100000 in
set_option maxHeartbeats 1000000 in
theorem is_idx (A : Option Addr) (cap : Nat) (L : List Int) (g : Nat) (lb : Array Value) (p : Int → Bool) (w : World) (eg : ∀ args w, (callFunc g args).run Tryz.prog w = .ok (.enter g args) w)
    (h : IsAt w A L) (hl : L.length ≤ 1000000) (hp : isPred g lb p L w) :
    Calls Tryz.prog 205 #[.slice A L.length cap, .func (.func g) #[] lb] w fun e w' => e = .returned (.int .i64 (rwIdx p L)) ∧ Below w.heap.size w w' := by
  go_enter Tryz.func205, Tryz.ntmps205
  go_wp2_with fail
  go_loopw [8] (fun v wr => ∃ k : Nat, k ≤ L.length ∧ v = .int .i64 k ∧ (∀ j, j < k → p (L.getD j 0) = false) ∧ Below w.heap.size w wr) (fun v _ => L.length - (intOf v).toNat)
  case atStart => exact ⟨0, Nat.zero_le _, rfl, fun j hj => by omega, Below.refl _ _⟩
  case round =>
    obtain ⟨k, hk, rfl, hf, hb⟩ := hrel
    have hlr := h.below hb
    by_cases hlt : k < L.length
    · obtain ⟨g5, off, rfl, hgB, c0⟩ := hlr k hlt
      have HCALL := hp wr (L.getD k 0) (rw_mem hlt) hb
      generalize hx : L.getD k 0 = x at *
      have HF := Lib.hid hf
      have HX := Lib.hid hx
      have HB := Lib.hid hb
      clear hf hx hp hb hlr h
      have hd : decide ((k : Int) < (L.length : Int)) = true := by simp; omega
      cases hq : p x
      · rw [hq] at HCALL
        go_wp2_with (go_at_fn g; refine HCALL.mono ?_; rintro e w1 ⟨rfl, hb1⟩)
        go_roundw
        case rel => exact ⟨k + 1, by omega, by go_num, fun j hj => (by
          by_cases e : j = k
          · rw [e, HX.out]; exact hq
          · exact HF.out j (by omega)), HB.out.trans (hb1.mono HB.out.size)⟩
        case measure => simp [intOf]; omega
      · rw [hq] at HCALL
        go_wp2_with (go_at_fn g; refine HCALL.mono ?_; rintro e w1 ⟨rfl, hb1⟩)
        go_ret
        exact ⟨ret_eq (rwIdx_at hlt HF.out (by rw [HX.out]; exact hq)).symm, HB.out.trans (hb1.mono HB.out.size)⟩
    · have : k = L.length := by omega
      subst this
      have HE := Lib.hid (rwIdx_none (p := p) (xs := L) (d := 0) hf)
      clear hf
      go_wp2_with fail
      go_ret
      exact ⟨ret_eq HE.out.symm, hb⟩
set_option maxRecDepth 100000 in
theorem is_any (A : Option Addr) (cap : Nat) (L : List Int) (g : Nat) (lb : Array Value) (p : Int → Bool) (w : World) (eg : ∀ args w, (callFunc g args).run Tryz.prog w = .ok (.enter g args) w)
    (h : IsAt w A L) (hl : L.length ≤ 1000000) (hp : isPred g lb p L w) (hn : ∀ e ∈ L, p e = false) :
    Calls Tryz.prog 152 #[.slice A L.length cap, .func (.func g) #[] lb] w fun e w' => e = .returned (.bool false) ∧ Below w.heap.size w w' := by
  have hi := is_idx A cap L g lb p w eg h hl hp
  have hm : rwIdx p L = -1 := rwIdx_none (d := 0) (fun j hj => hn _ (rw_mem hj))
  rw [hm] at hi
  clear h hp hn hm
  go_enter Tryz.func152, Tryz.ntmps152
  go_wp2_with fail
  refine hi.mono ?_
  rintro e w1 ⟨rfl, hb⟩
  have HB := Lib.hid hb
  clear hi hb
  go_wp2_with fail
  go_ret
  exact ⟨rfl, HB.out⟩

/-! ### numbersFault -/
theorem enters_nums : ∀ args w, (callFunc 153 args).run Tryz.prog w = .ok (.enter 153 args) w := enters_of Tryz.func153 (by kernel_rfl) rfl
set_option maxRecDepth 100000 in
theorem nums_clos (n : Int) (W : World) (hn : 0 ≤ n ∧ n ≤ 2000000000000) :
    Calls Tryz.prog 153 #[.int .i64 n] W fun en w' => en = .returned (.bool false) ∧ Below W.heap.size W w' := by
  have hin : (decide (n < (0 : Int)) || decide (2000000000000 < n)) = false := by simp; omega
  go_enter Tryz.func153, Tryz.ntmps153
  go_wp2_with fail
  refine (outside_any _ _ _ _).mono ?_
  rintro e w3 ⟨rfl, rfl⟩
  rw [hin]
  go_wp2_with fail
  go_ret
  exact ⟨rfl, Below.refl _ _⟩
set_option maxRecDepth 100000 in
theorem numbersFault_any (A : Option Addr) (cap : Nat) (L : List Int) (w : World) (h : IsAt w A L) (h0 : 0 < L.length) (hl : L.length ≤ 1000) (hr : ∀ e ∈ L, 0 ≤ e ∧ e ≤ 2000000000000) :
    Calls Tryz.prog 92 #[.slice A L.length cap] w fun e w' => e = .returned (.int .i64 0) ∧ Below w.heap.size w w' := by
  have hc := is_any A cap L 153 #[] (fun _ => false) w enters_nums h (by omega) (fun W e he _ => nums_clos e W (hr e he)) (fun _ _ => rfl)
  clear h hr
  have hd0 : ((L.length : Int) == 0) = false := by rw [beq_eq_false_iff_ne]; omega
  go_enter Tryz.func92, Tryz.ntmps92
  go_wp2_with fail
  refine hc.mono ?_
  rintro e w1 ⟨rfl, hb⟩
  have HB := Lib.hid hb
  clear hc hb
  go_wp2_with fail
  go_ret
  exact ⟨rfl, HB.out⟩
end Go.Proofs.YtajifionclpphaaGreatDoor

namespace Go.Proofs.YtajifionclpphaaGreatDoor
open Go.RowKit Go.Hw Go.Shelf

set_option maxRecDepth 100000 in
set_option maxHeartbeats 1000000 in
theorem gcd_any (a b : Nat) (w : World) (ha : a ≤ 1000000000000000) (hb : b ≤ 1000000000000000) :
    Calls Tryz.prog 154 #[.int .i64 a, .int .i64 b] w fun e w' => e = .returned (.int .i64 (Nat.gcd a b : Nat)) ∧ Below w.heap.size w w' := by
  go_enter Tryz.func154, Tryz.ntmps154
  go_wp2_with fail
  go_loopw [0, 1] (fun v0 v1 wr => ∃ x y : Nat, v0 = .int .i64 x ∧ v1 = .int .i64 y ∧ Nat.gcd x y = Nat.gcd a b ∧ x ≤ 1000000000000000 ∧ y ≤ 1000000000000000 ∧ Below w.heap.size w wr) (fun _ v1 _ => (intOf v1).toNat)
  case atStart => exact ⟨a, b, rfl, rfl, rfl, ha, hb, Below.refl _ _⟩
  case round =>
    obtain ⟨x, y, rfl, rfl, hg, hx, hy, hb1⟩ := hrel
    by_cases hz : y = 0
    · subst hz
      have hg' : x = Nat.gcd a b := by rw [← hg]; simp
      have HG := Lib.hid hg'
      have s0 : IntKind.i64.wrap (-(x : Int)) = -(x : Int) := IntWalk.i64_in _ (by omega)
      have s1 : max (x : Int) (-(x : Int)) = x := by omega
      clear hg hg'
      go_wp2_with fail
      go_ret
      exact ⟨(by rw [← HG.out]; rfl), hb1⟩
    · have hz1 : ((y : Int) != 0) = true := by simpa using hz
      have hz2 : (y : Int) ≠ 0 := by omega
      have hz3 : ((y : Int) == 0) = false := by rw [beq_eq_false_iff_ne]; exact hz2
      have hm : (x : Int).tmod (y : Int) = ((x % y : Nat) : Int) := (Int.ofNat_tmod x y).symm
      have hlt : x % y < y := Nat.mod_lt _ (by omega)
      have s0 : IntKind.i64.wrap ((x % y : Nat) : Int) = ((x % y : Nat) : Int) := IntWalk.i64_in _ (by omega)
      have HN := Lib.hid (show Nat.gcd y (x % y) = Nat.gcd a b from by rw [← hg, Nat.gcd_comm x y, Nat.gcd_rec y x, Nat.gcd_comm])
      have HB := Lib.hid hb1
      clear hg hb1
      generalize x % y = r at *
      go_wp2_with fail
      go_quiet (fail)
      go_wp2_with fail
      go_roundw
      case rel => exact ⟨y, r, rfl, rfl, HN.out, by omega, by omega, ⟨HB.out.os, HB.out.tape, HB.out.output, HB.out.size, HB.out.block⟩⟩
      case measure => simp [intOf]; omega

set_option maxRecDepth 100000 in
set_option maxHeartbeats 1000000 in
theorem lowest_any (n d : Nat) (w : World) (hn : n ≤ 1000000000000000) (hd : d ≤ 1000) (hd0 : 0 < d) :
    Calls Tryz.prog 93 #[.int .i64 n, .int .i64 d] w fun e w' => e = .returned (.agg #[.int .i64 (n / Nat.gcd n d : Nat), .int .i64 (d / Nat.gcd n d : Nat)]) ∧ Below w.heap.size w w' := by
  have hg0 : 0 < Nat.gcd n d := Nat.gcd_pos_of_pos_right n hd0
  have hgd : Nat.gcd n d ≤ d := Nat.gcd_le_right n hd0
  have hr := heap_alloc_new w (.cells #[.int .i64 0, .int .i64 0] 96)
  have HR := Lib.hid hr
  have HB := Lib.hid ((Below.refl w.heap.size w).alloc (Nat.le_refl _) (.cells #[.int .i64 0, .int .i64 0] 96))
  have hlt := lt_of_block hr
  have hd1 : decide ((d : Int) < 0) = false := by simp
  clear hr
  have hgc := fun W => gcd_any n d W hn (by omega)
  go_enter Tryz.func93, Tryz.ntmps93
  go_wp2_with fail
  generalize World.alloc w _ = W0 at *
  refine (hgc W0).mono ?_
  rintro e W1 ⟨rfl, hb1⟩
  have hr1 := (hb1.block _ hlt).trans HR.out
  have HR1 := Lib.hid hr1
  have HB1 := Lib.hid (HB.out.trans (hb1.mono HB.out.size))
  have hlt1 := lt_of_block hr1
  have c0 := cell_of hr1 0
  have c1 := cell_of hr1 1
  simp only [List.getElem?_toArray, List.getElem?_cons_zero, List.getElem?_cons_succ] at c0 c1
  have f0 : W1.frozen? ⟨w.heap.size, 0, none⟩ = false := by simp [World.frozen?, hr1]
  have f1 : W1.frozen? ⟨w.heap.size, 1, none⟩ = false := by simp [World.frozen?, hr1]
  generalize hgg : Nat.gcd n d = g at *
  have HGG := Lib.hid hgg
  clear hgg
  have q0 : ((g : Int) == 0) = false := by rw [beq_eq_false_iff_ne]; omega
  have q1 : (g : Int) ≠ 0 := by omega
  have t1 : (n : Int).tdiv (g : Int) = ((n / g : Nat) : Int) := (Int.ofNat_tdiv n g).symm
  have t2 : (d : Int).tdiv (g : Int) = ((d / g : Nat) : Int) := (Int.ofNat_tdiv d g).symm
  have hle1 : n / g ≤ n := Nat.div_le_self _ _
  have hle2 : d / g ≤ d := Nat.div_le_self _ _
  generalize hxx : n / g = x at *
  generalize hyy : d / g = y at *
  have HXX := Lib.hid hxx
  have HYY := Lib.hid hyy
  clear hxx hyy
  have s1 : IntKind.i64.wrap (x : Int) = (x : Int) := IntWalk.i64_in _ (by omega)
  have s2 : IntKind.i64.wrap (y : Int) = (y : Int) := IntWalk.i64_in _ (by omega)
  clear hgc hb1 hr1 HR HB hlt
  go_wp2_with fail
  go_region
  clear c0 c1 f0 f1
  have hr := ((Re.refl HR1.out).set 0 (.int .i64 (x : Nat))).set 1 (.int .i64 (y : Nat))
  have hbr := hr.below HB1.out (Nat.le_refl _)
  generalize hW : World.setCell _ _ _ = W9
  rw [hW] at hr hbr
  clear hW
  have hbk : W9.heap[w.heap.size]? = some (.cells #[.int .i64 (x : Nat), .int .i64 (y : Nat)] 96 (0, 0)) := by simpa using hr.blk
  have z0 : W9.drew.cell? ⟨w.heap.size, 0, none⟩ = some (.int .i64 (x : Nat)) := by rw [cell_drew]; simp [World.cell?, hbk]
  have z1 : W9.drew.cell? ⟨w.heap.size, 1, none⟩ = some (.int .i64 (y : Nat)) := by rw [cell_drew]; simp [World.cell?, hbk]
  have HBX := Lib.hid hbr.drew
  clear hr hbr hbk
  go_wp2_with fail
  refine bodyPost_ret (v := .agg #[.int .i64 (x : Nat), .int .i64 (y : Nat)]) (by simp [results, Tryz.results93, go_sem, z0, z1]) rfl ⟨by rw [HGG.out, HXX.out, HYY.out], HBX.out⟩

/-! ### middle -/
theorem clone_is (A : Option Addr) (cap : Nat) (L : List Int) (w : World) (h : IsAt w A L) (h0 : 0 < L.length) (hl : L.length ≤ 1000) :
    Calls Tryz.prog 155 #[.slice A L.length cap] w fun e w' => ∃ v', e = .returned v' ∧ IntsOwn w' w.heap.size v' L ∧ Below w.heap.size w w' := by
  obtain ⟨g, off, rfl, hg, _⟩ := h 0 h0
  have hc : ∀ j, j < L.length → w.cell? ⟨g, off + j, none⟩ = some (.int .i64 (L.getD j 0)) := fun j hj => by
    obtain ⟨g', off', e, _, h3⟩ := h j hj
    injection e with e
    injection e with e1 e2
    subst e1 e2
    exact h3
  refine (Tryz.slices_Clone_int g off L.length cap L w (Nat.le_refl _) (by omega) hc).mono ?_
  rintro e w' ⟨v', rfl, ho, -, hb⟩
  rw [List.take_length] at ho
  exact ⟨v', rfl, ho, hb⟩
set_option maxRecDepth 100000 in
set_option maxHeartbeats 1000000 in
theorem middle_any (A : Option Addr) (cap : Nat) (L : List Int) (w : World) (h : IsAt w A L) (h0 : 0 < L.length) (hl : L.length ≤ 1000) (hr : ∀ x ∈ L, 0 ≤ x ∧ x ≤ 1000000) :
    Calls Tryz.prog 94 #[.slice A L.length cap] w fun e w' => e = .returned (.int .i64 (med L)) ∧ Below w.heap.size w w' := by
  have hcl := clone_is A cap L w h h0 hl
  have hM := med_range h0 hr
  have hm1 := hr _ (srt_mem (l := L) (i := (L.length - 1) / 2) (by omega))
  have hm2 := hr _ (srt_mem (l := L) (i := L.length / 2) (by omega))
  have HMED := Lib.hid (show med L = (srt L).getD ((L.length - 1) / 2) 0 + (srt L).getD (L.length / 2) 0 from rfl)
  clear h hr
  go_enter Tryz.func94, Tryz.ntmps94
  go_wp2_with fail
  refine hcl.mono ?_
  rintro e w1 ⟨v1, rfl, ho1, hb1⟩
  have hso := sort_own w.heap.size v1 L w1 ho1 (by omega)
  have HB1 := Lib.hid hb1
  have hlow : ∀ j, v1.ownBlock = some j → w.heap.size ≤ j := fun j hj => (ho1.lt j hj).1
  have HLOW := Lib.hid hlow
  clear hcl ho1 hb1 hlow
  go_wp2_with fail
  refine hso.mono ?_
  rintro e w2 ⟨rfl, ho2, hg2⟩
  have HB2 := Lib.hid (HB1.out.grown hg2 HB1.out.size (fun j hj => HLOW.out j hj))
  have ho2' : IntsOwn w2 w.heap.size v1 (srt L) := ho2
  obtain ⟨A2, c2, rfl, hat⟩ := is_of ho2'
  rw [srt_length] at *
  obtain ⟨g, off, rfl, hgB, c0⟩ := hat ((L.length - 1) / 2) (by rw [srt_length]; omega)
  obtain ⟨g', off', e', _, c1⟩ := hat (L.length / 2) (by rw [srt_length]; omega)
  injection e' with e'
  injection e' with e1 e2
  subst e1 e2
  clear hso ho2 ho2' hg2 HLOW HB1 hat
  have la : (L.length - 1) / 2 < L.length := by omega
  have lb : L.length / 2 < L.length := by omega
  have s0 : IntKind.i64.wrap ((L.length : Int) - 1) = (L.length : Int) - 1 := IntWalk.i64_in _ (by omega)
  have s1 : ((L.length : Int) - 1).tdiv 2 = (((L.length - 1) / 2 : Nat) : Int) := by rw [Int.tdiv_eq_ediv_of_nonneg (by omega)]; omega
  have s2 : (L.length : Int).tdiv 2 = ((L.length / 2 : Nat) : Int) := by rw [Int.tdiv_eq_ediv_of_nonneg (by omega)]; omega
  generalize hx : (srt L).getD ((L.length - 1) / 2) 0 = x at *
  generalize hy : (srt L).getD (L.length / 2) 0 = y at *
  have HMED' := HMED.out
  have HX := Lib.hid HMED'
  clear hx hy HMED HMED'
  generalize (L.length - 1) / 2 = a at *
  generalize L.length / 2 = b at *
  have s3 : IntKind.i64.wrap (a : Int) = (a : Int) := IntWalk.i64_in _ (by omega)
  have s4 : IntKind.i64.wrap (b : Int) = (b : Int) := IntWalk.i64_in _ (by omega)
  have s5 : IntKind.i64.wrap (x + y) = x + y := IntWalk.i64_in _ (by omega)
  have s6 : (a : Int) < (L.length : Int) := by omega
  have s7 : (b : Int) < (L.length : Int) := by omega
  have s8 : (1 : Int) ≤ (L.length : Int) := by omega
  generalize L.length = n at *
  go_wp2_with fail
  go_quiet (fail)
  go_wp2_with fail
  go_ret
  exact ⟨ret_eq HX.out.symm, ⟨HB2.out.os, HB2.out.tape, HB2.out.output, HB2.out.size, HB2.out.block⟩⟩

/-! ### Median -/
/-- m / d in lowest terms. -/
def fracV (m d : Nat) : Value := .agg #[.int .i64 (m / Nat.gcd m d : Nat), .int .i64 (d / Nat.gcd m d : Nat)]

set_option maxRecDepth 100000 in
set_option maxHeartbeats 1000000 in
theorem Median_any (A : Option Addr) (cap : Nat) (L : List Int) (w : World) (h : IsAt w A L) (h0 : 0 < L.length) (hl : L.length ≤ 1000) (hr : ∀ x ∈ L, 0 ≤ x ∧ x ≤ 1050) :
    Calls Tryz.prog 46 #[.slice A L.length cap] w fun e w' => e = .returned (.tuple #[fracV (med L).toNat 2, .int .i64 0]) ∧ Below w.heap.size w w' := by
  have hnf := fun W (hb : Below w.heap.size w W) => numbersFault_any A cap L W (h.below hb) h0 hl (fun x hx => by have := hr x hx; omega)
  have hmid := fun W (hb : Below w.heap.size w W) => middle_any A cap L W (h.below hb) h0 hl (fun x hx => by have := hr x hx; omega)
  have HR := Lib.hid (show 0 ≤ med L ∧ med L ≤ 2000000 from by have := med_range h0 hr; omega)
  have H1 := Lib.hid (heap_alloc_new w (.cells #[.int .i64 0, .int .i64 0] 96))
  have HB := Lib.hid ((Below.refl w.heap.size w).alloc (Nat.le_refl _) (.cells #[.int .i64 0, .int .i64 0] 96))
  have l1 := lt_of_block H1.out
  clear h hr
  go_enter Tryz.func46, Tryz.ntmps46
  go_wp2_with fail
  generalize World.alloc w _ = W0 at *
  refine (hnf W0 HB.out).mono ?_
  rintro e W1 ⟨rfl, hb1⟩
  have H1 := Lib.hid ((hb1.block _ l1).trans H1.out)
  have HB := Lib.hid (HB.out.trans (hb1.mono HB.out.size))
  have l1 := lt_of_block H1.out
  clear hnf hb1
  go_wp2_with fail
  refine (hmid W1 HB.out).mono ?_
  rintro e W2 ⟨rfl, hb2⟩
  have H1 := Lib.hid ((hb2.block _ l1).trans H1.out)
  have HB := Lib.hid (HB.out.trans (hb2.mono HB.out.size))
  have l1 := lt_of_block H1.out
  clear hmid hb2
  obtain ⟨m, hm⟩ : ∃ m : Nat, med L = m := ⟨(med L).toNat, by have := HR.out; omega⟩
  have hml : m ≤ 2000000 := by have := HR.out; omega
  have HM := Lib.hid hm
  rw [hm]
  clear hm
  go_wp2_with fail
  refine (lowest_any m 2 W2 (by omega) (by omega) (by omega)).mono ?_
  rintro e W3 ⟨rfl, hb3⟩
  have H1 := Lib.hid ((hb3.block _ l1).trans H1.out)
  have HB := Lib.hid (HB.out.trans (hb3.mono HB.out.size))
  have l1 := lt_of_block H1.out
  clear hb3
  have HF := Lib.hid (show fracV (med L).toNat 2 = .agg #[.int .i64 (m / Nat.gcd m 2 : Nat), .int .i64 (2 / Nat.gcd m 2 : Nat)] from by rw [HM.out]; rfl)
  generalize m / Nat.gcd m 2 = x at *
  generalize 2 / Nat.gcd m 2 = y at *
  have c0 := cell_of H1.out 0
  have c1 := cell_of H1.out 1
  simp only [List.getElem?_toArray, List.getElem?_cons_zero, List.getElem?_cons_succ] at c0 c1
  have f0 : W3.frozen? ⟨w.heap.size, 0, none⟩ = false := by simp [World.frozen?, H1.out]
  have f1 : W3.frozen? ⟨w.heap.size, 1, none⟩ = false := by simp [World.frozen?, H1.out]
  go_wp2_with fail
  clear c0 c1 f0 f1
  have hr := ((Re.refl H1.out).set 0 (.int .i64 (x : Nat))).set 1 (.int .i64 (y : Nat))
  have hbr := hr.below HB.out (Nat.le_refl _)
  generalize hW : World.setCell _ _ _ = W9
  rw [hW] at hr hbr
  clear hW
  have hbk : W9.heap[w.heap.size]? = some (.cells #[.int .i64 (x : Nat), .int .i64 (y : Nat)] 96 (0, 0)) := by simpa using hr.blk
  have z0 : W9.cell? ⟨w.heap.size, 0, none⟩ = some (.int .i64 (x : Nat)) := by simp [World.cell?, hbk]
  have z1 : W9.cell? ⟨w.heap.size, 1, none⟩ = some (.int .i64 (y : Nat)) := by simp [World.cell?, hbk]
  refine bodyPost_ret (v := .tuple #[.agg #[.int .i64 (x : Nat), .int .i64 (y : Nat)], .int .i64 0]) (by simp [results, Tryz.results46, go_sem, z0, z1]) rfl ⟨by rw [HF.out], hbr⟩

end Go.Proofs.YtajifionclpphaaGreatDoor

namespace Go.Proofs.YtajifionclpphaaGreatDoor
open Go.RowKit Go.Hw Go.Shelf

theorem med_three : med [1, 2, 9] = 4 := by
  have h : srt [1, 2, 9] = [1, 2, 9] := srt_uniq (by decide) (List.Perm.refl _)
  unfold med
  rw [h]
  rfl
theorem frac_three : fracV (med [1, 2, 9]).toNat 2 = .agg #[.int .i64 2, .int .i64 1] := by
  rw [med_three]
  rfl
set_option maxRecDepth 100000 in
set_option maxHeartbeats 4000000 in
theorem ready2 (w : World) (hm : MxW w) : Calls Tryz.prog 18 #[] w fun e w' => e = .returned (.bool true) ∧ Below w.heap.size w w' := by
  have HM := Lib.hid hm
  clear hm
  go_enter Tryz.func18, Tryz.ntmps18
  go_wp2_with fail
  refine (text_one _).mono ?_
  rintro e w1 ⟨rfl, hb⟩
  have HB := Lib.hid hb
  have HM := Lib.hid (HM.out.below hb)
  clear hb
  go_wp2_with fail
  refine (read_one _ HM.out).mono ?_
  rintro e w2 ⟨gb, cg, rfl, hb⟩
  have HB := Lib.hid (HB.out.trans (hb.mono HB.out.size))
  clear hb HM
  go_wp2_with fail
  have hC := (CA.made w2 [.slice none 0 0, .slice none 0 0, .slice (some ⟨gb, 0, none⟩) 1 cg, .slice none 0 0] 92).alloc (.cells #[.int .i64 1, .int .i64 2, .int .i64 9] 3)
  have hL := CA.made (w2.alloc (.cells #[.slice none 0 0, .slice none 0 0, .slice (some ⟨gb, 0, none⟩) 1 cg, .slice none 0 0] 92)) [.int .i64 1, .int .i64 2, .int .i64 9] 3
  have hz : (w2.alloc (.cells #[.slice none 0 0, .slice none 0 0, .slice (some ⟨gb, 0, none⟩) 1 cg, .slice none 0 0] 92)).heap.size = w2.heap.size + 1 := by simp
  rw [hz] at hL
  have HB := Lib.hid ((HB.out.alloc HB.out.size (.cells #[.slice none 0 0, .slice none 0 0, .slice (some ⟨gb, 0, none⟩) 1 cg, .slice none 0 0] 92)).alloc (by rw [hz]; have := HB.out.size; omega) (.cells #[.int .i64 1, .int .i64 2, .int .i64 9] 3))
  have hIs : IsAt ((w2.alloc (.cells #[.slice none 0 0, .slice none 0 0, .slice (some ⟨gb, 0, none⟩) 1 cg, .slice none 0 0] 92)).alloc (.cells #[.int .i64 1, .int .i64 2, .int .i64 9] 3)) (some ⟨w2.heap.size + 1, 0, none⟩) [1, 2, 9] := by
    intro i hi
    refine ⟨_, 0, rfl, hL.1, ?_⟩
    rw [Nat.zero_add]
    refine hL.2 i _ ?_
    match i, hi with
    | 0, _ => rfl
    | 1, _ => rfl
    | 2, _ => rfl
  refine (Median_any (some ⟨w2.heap.size + 1, 0, none⟩) 3 [1, 2, 9] _ hIs (by decide) (by decide) (by decide)).mono ?_
  rw [frac_three]
  rintro e w3 ⟨rfl, hb⟩
  have HC := Lib.hid (hC.below hb)
  have HB := Lib.hid (HB.out.trans (hb.mono HB.out.size))
  generalize w2.heap.size = B2 at *
  clear hC hL hz hIs hb
  go_wp2_with fail
  have hF := (CA.made w3 [.int .i64 2, .int .i64 1] 96).alloc (.cells #[.string ⟨#[97]⟩] 9)
  have hS := CA.made (w3.alloc (.cells #[.int .i64 2, .int .i64 1] 96)) [.string ⟨#[97]⟩] 9
  have hz : (w3.alloc (.cells #[.int .i64 2, .int .i64 1] 96)).heap.size = w3.heap.size + 1 := by simp
  rw [hz] at hS
  have HC := Lib.hid ((HC.out.alloc (.cells #[.int .i64 2, .int .i64 1] 96)).alloc (.cells #[.string ⟨#[97]⟩] 9))
  have HB := Lib.hid ((HB.out.alloc HB.out.size (.cells #[.int .i64 2, .int .i64 1] 96)).alloc (by rw [hz]; have := HB.out.size; omega) (.cells #[.string ⟨#[97]⟩] 9))
  refine (join_one (w3.heap.size + 1) 1 _ hS.1 (hS.2 0 _ rfl)).mono ?_
  rintro e w4 ⟨xb, xc, rfl, hb⟩
  have hC := (HC.out.below hb).alloc (.cells #[.slice (some ⟨xb, 0, none⟩) 1 xc, .slice none 0 0, .bool false, .bool false, .bool false, .string ⟨#[]⟩, .string ⟨#[]⟩, .string ⟨#[]⟩, .slice none 0 0, .slice none 0 0, .slice none 0 0, .slice none 0 0, .string ⟨#[]⟩] 106)
  have hF := (hF.below hb).alloc (.cells #[.slice (some ⟨xb, 0, none⟩) 1 xc, .slice none 0 0, .bool false, .bool false, .bool false, .string ⟨#[]⟩, .string ⟨#[]⟩, .string ⟨#[]⟩, .slice none 0 0, .slice none 0 0, .slice none 0 0, .slice none 0 0, .string ⟨#[]⟩] 106)
  have hX := CA.made w4 [.slice (some ⟨xb, 0, none⟩) 1 xc, .slice none 0 0, .bool false, .bool false, .bool false, .string ⟨#[]⟩, .string ⟨#[]⟩, .string ⟨#[]⟩, .slice none 0 0, .slice none 0 0, .slice none 0 0, .slice none 0 0, .string ⟨#[]⟩] 106
  have HB := Lib.hid (HB.out.trans (hb.mono HB.out.size))
  have HB := Lib.hid (HB.out.alloc HB.out.size (.cells #[.slice (some ⟨xb, 0, none⟩) 1 xc, .slice none 0 0, .bool false, .bool false, .bool false, .string ⟨#[]⟩, .string ⟨#[]⟩, .string ⟨#[]⟩, .slice none 0 0, .slice none 0 0, .slice none 0 0, .slice none 0 0, .string ⟨#[]⟩] 106))
  have HC := Lib.hid hC
  have HF := Lib.hid hF
  have HX := Lib.hid hX
  have c2 := hC.2 2 _ rfl
  have f0 := hF.2 0 _ rfl
  have x0 := hX.2 0 _ rfl
  have lC := hC.1
  have lF := hF.1
  have lX := hX.1
  clear hC hF hX hS hz hb
  generalize w3.heap.size = B3 at *
  go_wp2_with fail
  have hU := blk_two (w := w4) (.cells #[.slice (some ⟨xb, 0, none⟩) 1 xc, .slice none 0 0, .bool false, .bool false, .bool false, .string ⟨#[]⟩, .string ⟨#[]⟩, .string ⟨#[]⟩, .slice none 0 0, .slice none 0 0, .slice none 0 0, .slice none 0 0, .string ⟨#[]⟩] 106) (.cells #[.int .u8 0, .int .u8 1] 5) rfl
  refine (sumF_any _ _ hU).mono ?_
  rintro e w5 ⟨rfl, hb⟩
  have HB := Lib.hid ((HB.out.alloc HB.out.size (.cells #[.int .u8 0, .int .u8 1] 5)))
  have HB := Lib.hid (HB.out.trans (hb.mono HB.out.size))
  clear hU hb
  go_wp2_with fail
  go_ret
  exact ⟨rfl, HB.out⟩
end Go.Proofs.YtajifionclpphaaGreatDoor
