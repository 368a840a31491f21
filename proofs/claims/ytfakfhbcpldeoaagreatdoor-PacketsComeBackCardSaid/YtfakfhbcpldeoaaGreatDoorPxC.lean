/- Packets as bytes: addresses. -/
import Derived.Test.YtfakfhbcpldeoaaGreatDoorPxB
namespace Go.Proofs.YtfakfhbcpldeoaaGreatDoor
open Go.RowKit Go.Hw

set_option maxRecDepth 20000 in
set_option maxHeartbeats 4000000 in
theorem putAddr4 (base : Nat) (hi_ lo : Int) (h0 : 0 ≤ hi_) (h1 : 0 ≤ lo) (A : Option Addr) (k cap : Nat) (bs : List UInt8) (w : World) (ho : bOwn w base A k cap bs) (hb : base ≤ w.heap.size) (hk : k ≤ 10000) :
    Calls Tryz.prog 39 #[.slice A k cap, .agg #[.bool false, .int .u64 hi_, .int .u64 lo]] w fun e w' => ∃ A' cap', e = .returned (.slice A' (k + 4) cap') ∧ bOwn w' base A' (k + 4) cap' (bs ++ addrP false hi_ lo) ∧ bGrow w w' A A' := by
  have c0 := heap_alloc_new w (.cells #[.bool false, .int .u64 hi_, .int .u64 lo] 28)
  have ho1 : bOwn (w.alloc (.cells #[.bool false, .int .u64 hi_, .int .u64 lo] 28)) base A k cap bs := ⟨ho.1, ho.2.alloc _⟩
  have hg1 : bGrow w (w.alloc (.cells #[.bool false, .int .u64 hi_, .int .u64 lo] 28)) A A := (bGrow.refl _ _).al _
  have hnb : ownN A ≠ some w.heap.size := fun e => by have := (ho.2.lt _ (by rw [ownN_eq]; exact e)).2; omega
  obtain ⟨n, rfl⟩ : ∃ n : Nat, hi_ = n := ⟨hi_.toNat, by omega⟩
  obtain ⟨m, rfl⟩ : ∃ m : Nat, lo = m := ⟨lo.toNat, by omega⟩
  have HO := Lib.hid ho1
  have HG := Lib.hid hg1
  clear ho ho1 hg1 c0
  go_enter Tryz.func39, Tryz.ntmps39
  go_wp2_with fail
  refine (put_any base m 4 (by omega) A k cap bs _ HO.out (by simp; omega) (by omega)).mono ?_
  rintro e w2 ⟨A', cap', rfl, ho2, hg2⟩
  have HF := Lib.hid (And.intro ho2 (HG.out.trans hg2))
  clear ho2 hg2
  go_wp2_with fail
  go_ret
  exact ⟨_, _, rfl, by have := HF.out.1; simpa [addrP] using this, HF.out.2⟩
set_option maxRecDepth 20000 in
set_option maxHeartbeats 4000000 in
theorem putAddr16 (base : Nat) (hi_ lo : Int) (h0 : 0 ≤ hi_) (h1 : 0 ≤ lo) (A : Option Addr) (k cap : Nat) (bs : List UInt8) (w : World) (ho : bOwn w base A k cap bs) (hb : base ≤ w.heap.size) (hk : k ≤ 10000) :
    Calls Tryz.prog 39 #[.slice A k cap, .agg #[.bool true, .int .u64 hi_, .int .u64 lo]] w fun e w' => ∃ A' cap', e = .returned (.slice A' (k + 16) cap') ∧ bOwn w' base A' (k + 16) cap' (bs ++ addrP true hi_ lo) ∧ bGrow w w' A A' := by
  have c0 := heap_alloc_new w (.cells #[.bool true, .int .u64 hi_, .int .u64 lo] 28)
  have ho1 : bOwn (w.alloc (.cells #[.bool true, .int .u64 hi_, .int .u64 lo] 28)) base A k cap bs := ⟨ho.1, ho.2.alloc _⟩
  have hg1 : bGrow w (w.alloc (.cells #[.bool true, .int .u64 hi_, .int .u64 lo] 28)) A A := (bGrow.refl _ _).al _
  have hnb : ownN A ≠ some w.heap.size := fun e => by have := (ho.2.lt _ (by rw [ownN_eq]; exact e)).2; omega
  obtain ⟨n, rfl⟩ : ∃ n : Nat, hi_ = n := ⟨hi_.toNat, by omega⟩
  obtain ⟨m, rfl⟩ : ∃ m : Nat, lo = m := ⟨lo.toNat, by omega⟩
  go_enter Tryz.func39, Tryz.ntmps39
  go_upto_region 3 with (fail)
  generalize hW : World.alloc w _ = W0 at *
  have HO : Hid (bOwn W0.drew base A k cap bs) := Lib.hid ho1
  have HG : Hid (bGrow w W0.drew A A) := Lib.hid hg1.dr
  have HC : Hid (W0.drew.heap[w.heap.size]? = some (.cells #[.bool true, .int .u64 n, .int .u64 m] 28 (0, 0))) := Lib.hid c0
  have c1 : W0.cell? ⟨w.heap.size, 1, none⟩ = some (.int .u64 n) := cell_of c0 1
  have c2 : W0.cell? ⟨w.heap.size, 2, none⟩ = some (.int .u64 m) := cell_of c0 2
  have hbw : base ≤ W0.drew.heap.size := Nat.le_trans hb hg1.1.size
  clear hW ho ho1 hg1 c0
  go_region_held3 (fun w' => w'.cell? ⟨w.heap.size, 1, none⟩ = some (.int .u64 n) ∧ w'.cell? ⟨w.heap.size, 2, none⟩ = some (.int .u64 m)) ((repeat' apply And.intro) <;> (first | with_reducible assumption | with_reducible refine keepD ?_) <;> with_reducible assumption)
    (first
      | (have mk2 := mark1; go_at_call 37; refine (put_any base m 8 (by omega) A1 (k + 8) cap1 _ _ ho1 (Nat.le_trans hbw hg1.1.size) (by omega)).mono ?_; rintro e W2 ⟨A2, cap2, rfl, ho2, hg2⟩; have hb2 := hg2.blk hb1.1 hb1.2; have c1 : W2.cell? ⟨w.heap.size, 1, none⟩ = some (.int .u64 n) := cell_of hb2.1 1; have c2 : W2.cell? ⟨w.heap.size, 2, none⟩ = some (.int .u64 m) := cell_of hb2.1 2)
      | ((fail_if_success (have mk9 := mark1)); go_at_call 37; refine (put_any base n 8 (by omega) A k cap bs _ HO.out hbw (by omega)).mono ?_; rintro e W1 ⟨A1, cap1, rfl, ho1, hg1⟩; have mark1 : True := trivial; have hb1 := hg1.blk HC.out hnb; have c1 : W1.cell? ⟨w.heap.size, 1, none⟩ = some (.int .u64 n) := cell_of hb1.1 1; have c2 : W1.cell? ⟨w.heap.size, 2, none⟩ = some (.int .u64 m) := cell_of hb1.1 2))
  all_goals (
    have HF := Lib.hid (And.intro ho2 (HG.out.trans (hg1.trans hg2)))
    clear ho1 hg1 ho2 hg2 hb1 hb2
    go_wp2_with fail
    go_ret
    exact ⟨_, _, rfl, by have := HF.out.1; simpa [addrP, List.append_assoc] using this, HF.out.2⟩)
theorem bAt.take {w : World} {A : Option Addr} {bs : List UInt8} (h : bAt w A bs) (n : Nat) : bAt w A (bs.take n) := fun i c hc => h i c (by
  rw [List.getElem?_take] at hc
  split at hc
  · exact hc
  · cases hc)
theorem bAt.drop {w : World} {g off : Nat} {bs : List UInt8} (h : bAt w (some ⟨g, off, none⟩) bs) (n : Nat) : bAt w (some ⟨g, off + n, none⟩) (bs.drop n) := fun i c hc => by
  rw [List.getElem?_drop] at hc
  obtain ⟨g', off', e, hl, hx⟩ := h (n + i) c hc
  injection e with e
  injection e with e1 e2
  subst e1
  subst e2
  exact ⟨g, off + n, rfl, hl, by rw [Nat.add_assoc]; exact hx⟩
theorem bl_re {B : Nat} {w W W1 : World} {R : Nat} {cs : Array Value} {T : TypeId} (hb : Below B w W) (hr : Re W W1 R cs T) (hR : B ≤ R) : Below B w W1 :=
  ⟨hr.os.trans hb.os, hr.tape.trans hb.tape, hr.output.trans hb.output, by rw [hr.size]; exact hb.size, fun k hk => (hr.oth k (by omega)).trans (hb.block k hk)⟩
/-- take of a piece of bytes. -/
theorem take_sub (g off cap : Nat) (bs : List UInt8) (i n : Nat) (w : World) (ho : bAt w (some ⟨g, off, none⟩) bs) (hn : n ≤ 8) (hi : i + n ≤ bs.length) :
    Calls Tryz.prog 23 #[.slice (some ⟨g, off + i, none⟩) n cap] w fun e w' => e = .returned (.int .u64 (takeN (subB bs i (i + n)))) ∧ w = w' := by
  have h := take_any (some ⟨g, off + i, none⟩) cap (subB bs i (i + n)) w (by unfold subB; exact (ho.drop i).take _) (by simp [subB]; omega)
  rw [show (subB bs i (i + n)).length = n from by simp [subB]; omega] at h
  exact h
set_option maxRecDepth 20000 in
set_option maxHeartbeats 4000000 in
theorem takeAddr4 (g off cap : Nat) (bs : List UInt8) (i : Nat) (w : World) (ho : bAt w (some ⟨g, off, none⟩) bs) (hi : i + 4 ≤ bs.length) :
    Calls Tryz.prog 41 #[.slice (some ⟨g, off + i, none⟩) 4 cap] w fun e w' => e = .returned (.agg #[.bool false, .int .u64 0, .int .u64 (takeN (subB bs i (i + 4)))]) ∧ Below w.heap.size w w' := by
  have HB := Lib.hid (bl_alloc w (.cells #[.bool false, .int .u64 0, .int .u64 0] 28))
  have hta := take_sub g off cap bs i 4 (w.alloc (.cells #[.bool false, .int .u64 0, .int .u64 0] 28)) (ho.below HB.out) (by omega) hi
  clear ho
  generalize takeN (subB bs i (i + 4)) = tv at hta ⊢
  go_enter Tryz.func41, Tryz.ntmps41
  go_wp2_with fail
  refine hta.mono ?_
  rintro e w2 ⟨rfl, rfl⟩
  clear hta
  go_wp2_with fail
  exact bodyPost_ret (v := .agg #[.bool false, .int .u64 0, .int .u64 tv]) (by simp [results, Tryz.results41, go_sem]) rfl ⟨rfl, bl_alloc w _⟩
set_option maxRecDepth 20000 in
set_option maxHeartbeats 4000000 in
theorem takeAddr16 (g off cap : Nat) (bs : List UInt8) (i : Nat) (w : World) (ho : bAt w (some ⟨g, off, none⟩) bs) (hi : i + 16 ≤ bs.length) (hc : 16 ≤ cap) :
    Calls Tryz.prog 41 #[.slice (some ⟨g, off + i, none⟩) 16 cap] w fun e w' => e = .returned (.agg #[.bool true, .int .u64 (takeN (subB bs i (i + 8))), .int .u64 (takeN (subB bs (i + 8) (i + 16)))]) ∧ Below w.heap.size w w' := by
  have HB := Lib.hid (bl_alloc w (.cells #[.bool false, .int .u64 0, .int .u64 0] 28))
  have ha : bAt (w.alloc (.cells #[.bool false, .int .u64 0, .int .u64 0] 28)).drew (some ⟨g, off, none⟩) bs := ho.below HB.out.drew
  have hta := take_sub g off cap bs i 8 _ ha (by omega) (by omega)
  have htb := take_sub g off (cap - 8) bs (i + 8) 8 _ ha (by omega) (by omega)
  rw [← Nat.add_assoc] at htb
  clear ho ha
  rw [show i + 16 = i + 8 + 8 from rfl]
  generalize takeN (subB bs i (i + 8)) = t1 at hta ⊢
  generalize takeN (subB bs (i + 8) (i + 8 + 8)) = t2 at htb ⊢
  have d1 : decide ((8 : Int) ≤ (cap : Int)) = true := by simp; omega
  have d2 : 8 ≤ cap := by omega
  have d3 : (8 : Int) ≤ (cap : Int) := by omega
  go_enter Tryz.func41, Tryz.ntmps41
  go_upto_region 3 with (fail)
  generalize hW : World.alloc w _ = W0 at *
  have c0 := heap_alloc_new w (.cells #[.bool false, .int .u64 0, .int .u64 0] 28)
  rw [hW] at c0
  obtain ⟨x0, x1, x2, f0, f1, f2⟩ := res3 c0
  clear hW
  go_region_with (first
    | (have mk2 := mark1; go_at_call 23; refine htb.mono ?_; rintro e w2 ⟨rfl, rfl⟩)
    | ((fail_if_success (have mk9 := mark1)); go_at_call 23; refine hta.mono ?_; rintro e w2 ⟨rfl, rfl⟩; have mark1 : True := trivial))
  all_goals (
    generalize hW : World.setCell _ _ _ = W1
    have hr := re3 c0 hW
    have HF := Lib.hid (bl_re HB.out hr (Nat.le_refl _)).drew
    have hb : W1.drew.heap[w.heap.size]? = some (.cells #[.bool true, .int .u64 t1, .int .u64 t2] 28 (0, 0)) := hr.blk
    clear hW hr
    go_wp2_with fail
    exact bodyPost_ret (v := .agg #[.bool true, .int .u64 t1, .int .u64 t2]) (results_cell Tryz.results41 rfl hb (by kernel_rfl) (by kernel_rfl)) rfl ⟨rfl, HF.out⟩)
end Go.Proofs.YtfakfhbcpldeoaaGreatDoor
