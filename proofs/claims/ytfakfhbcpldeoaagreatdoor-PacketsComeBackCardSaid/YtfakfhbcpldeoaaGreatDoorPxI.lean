/- Packets as bytes: Clone, Equal, zeros. -/
import Derived.Test.YtfakfhbcpldeoaaGreatDoorPxG
import Derived.Test.YtfakfhbcpldeoaaGreatDoorTkG
import Derived.Test.YtfakfhbcpldeoaaGreatDoorShelf
namespace Go.Proofs.YtfakfhbcpldeoaaGreatDoor
open Go.RowKit Go.Hw

set_option maxRecDepth 20000 in
set_option maxHeartbeats 1000000 in
theorem cloneB_any (g off n cap : Nat) (bs : List UInt8) (w : World) (h : bAt w (some ⟨g, off, none⟩) bs) (hl : bs.length = n) (hs : n ≤ 100000) :
    Calls Tryz.prog 8 #[.slice (some ⟨g, off, none⟩) n cap] w fun e w' => ∃ A' cap', e = .returned (.slice A' n cap') ∧ bOwn w' w.heap.size A' n cap' bs ∧ Below w.heap.size w w' := by
  have HO := Lib.hid (bOwn.new (w := w) (base := w.heap.size) (cs := #[]) (ys := []) (n := 0) rfl (Nat.le_refl _) rfl (by omega))
  have HB := Lib.hid (bl_alloc w (.cells #[] 5))
  have HA := Lib.hid (h.below HB.out)
  clear h
  have hq : ∀ (w : World), (binOp .eql 29 (.slice (some ⟨g, off, none⟩) n cap) (.slice none 0 0)).run Tryz.prog w = .ok (.bool false) w := fun w => Lib.run_eql_slice_nil w _ _ _ _ _ 0 0 Tryz.underlying29
  go_enter Tryz.func8, Tryz.ntmps8
  go_wp2_with (at_builtin; refine wpList_app_b rfl (.tmp 5) (.tmp 6) rfl rfl (base := w.heap.size) (A := some ⟨w.heap.size, 0, none⟩) (k := 0) (cap := 0) rfl HO.out HB.out.size (m := n) (ys := bs) rfl HA.out hl (by simp) (by omega) ?_)
  intro A9 cap9 W9 ho9 hg9
  have HF := Lib.hid (And.intro (show bOwn W9 w.heap.size A9 n cap9 bs from by simpa using ho9) (HB.out.trans (hg9.below HO.out HB.out.size)))
  clear ho9 hg9
  go_wp2_with fail
  go_ret
  exact ⟨_, _, rfl, HF.out.1, HF.out.2⟩
set_option maxRecDepth 20000 in
set_option maxHeartbeats 1000000 in
theorem equalB_any (A B : Option Addr) (n m c d : Nat) (xs ys : List UInt8) (w : World) (hx : bAt w A xs) (hy : bAt w B ys) (hl : xs.length = n) (hm : ys.length = m) (hs : n ≤ 100000) :
    Calls Tryz.prog 10 #[.slice A n c, .slice B m d] w fun e w' => e = .returned (.bool (decide (xs = ys))) ∧ Below w.heap.size w w' := by
  by_cases hnm : n = m
  · subst hnm
    have HX := Lib.hid hx
    have HY := Lib.hid hy
    clear hx hy
    go_enter Tryz.func10, Tryz.ntmps10
    go_wp2_with fail
    go_loopw [13] (fun v wr => ∃ k : Nat, k ≤ n ∧ v = .int .i64 k ∧ xs.take k = ys.take k ∧ Below w.heap.size w wr) (fun v _ => n - (intOf v).toNat)
    case atStart => exact ⟨0, Nat.zero_le _, rfl, rfl, Below.refl _ _⟩
    case round =>
      obtain ⟨k, hk, rfl, hf, hb⟩ := hrel
      by_cases hlt : k < n
      · have hd : decide ((k : Int) < (n : Int)) = true := by simp; omega
        obtain ⟨g1, o1, rfl, hg1, hc1⟩ := HX.out.below hb k (xs[k]'(by omega)) (by simp)
        obtain ⟨g2, o2, rfl, hg2, hc2⟩ := HY.out.below hb k (ys[k]'(by omega)) (by simp)
        have hxk : xs[k]? = some (xs[k]'(by omega)) := by simp
        have hyk : ys[k]? = some (ys[k]'(by omega)) := by simp
        generalize xs[k]'(by omega) = x at hc1 hxk
        generalize ys[k]'(by omega) = y at hc2 hyk
        have HF := Lib.hid hf
        have HB := Lib.hid hb
        have HXK := Lib.hid hxk
        have HYK := Lib.hid hyk
        clear hf hb hxk hyk
        by_cases he : x = y
        · subst he
          go_wp2_with fail
          go_quiet (fail)
          go_wp2_with fail
          go_roundw
          case rel => exact ⟨k + 1, by omega, by go_num, by rw [List.take_add_one, List.take_add_one, HF.out, HXK.out, HYK.out], bl_dn HB.out _⟩
          case measure => simp [intOf]; omega
        · have hne : ((x.toNat : Int) == (y.toNat : Int)) = false := by
            have h1 : x.toNat ≠ y.toNat := fun c => he (UInt8.toNat_inj.1 c)
            simp; omega
          have hne2 : ((x.toNat : Int) != (y.toNat : Int)) = true := by
            have h1 : x.toNat ≠ y.toNat := fun c => he (UInt8.toNat_inj.1 c)
            simp; omega
          have HN : Hid (decide (xs = ys) = false) := Lib.hid (by
            simp
            intro c
            have h1 := HXK.out
            rw [c, HYK.out] at h1
            injection h1 with h1
            exact he h1.symm)
          clear he
          go_wp2_with fail
          go_quiet (fail)
          go_wp2_with fail
          go_ret
          exact ⟨by rw [HN.out]; rfl, bl_dn HB.out _⟩
      · have : k = n := by omega
        subst this
        have hd : decide ((k : Int) < (k : Int)) = false := by simp
        have HE : Hid (decide (xs = ys) = true) := Lib.hid (by
          simp
          rw [List.take_of_length_le (by omega), List.take_of_length_le (by omega)] at hf
          exact hf)
        clear hf
        go_wp2_with fail
        go_ret
        exact ⟨by rw [HE.out]; rfl, hb⟩
  · have hne : ((n : Int) == (m : Int)) = false := by simp; omega
    have hne2 : ((n : Int) != (m : Int)) = true := by simp; omega
    have HN : Hid (decide (xs = ys) = false) := Lib.hid (by simp; intro c; exact hnm (by rw [← hl, ← hm, c]))
    clear hnm hx hy
    go_enter Tryz.func10, Tryz.ntmps10
    go_wp2_with fail
    go_ret
    exact ⟨by rw [HN.out]; rfl, Below.refl _ _⟩
theorem zeroF (c : UInt8) (w : World) : Calls Tryz.prog 62 #[.int .u8 c.toNat] w fun e w' => e = .returned (.bool (c != 0)) ∧ w = w' := by
  have hc : ((c.toNat : Int) != 0) = (c != 0) := by
    by_cases h : c = 0
    · subst h; rfl
    · have h1 : c.toNat ≠ 0 := fun e => h (UInt8.toNat_inj.1 (by simpa using e))
      rw [bne_iff_ne.2 h, bne_iff_ne]
      omega
  generalize hb : (c != 0) = b at hc ⊢
  go_enter Tryz.func62, Tryz.ntmps62
  go_wp2_with fail
  go_ret
  exact ⟨rfl, rfl⟩
theorem entersZero : ∀ args w, (callFunc 62 args).run Tryz.prog w = .ok (.enter 62 args) w := enters_of Tryz.func62 (by kernel_rfl) rfl
def allZ (bs : List UInt8) : Bool := bs.all (fun c => c == 0)
set_option maxRecDepth 20000 in
set_option maxHeartbeats 1000000 in
theorem idxZ_any (A : Option Addr) (cap : Nat) (bs : List UInt8) (w : World) (h : bAt w A bs) (hs : bs.length ≤ 100000) :
    Calls Tryz.prog 98 #[.slice A bs.length cap, .func (.func 62) #[] #[]] w fun e w' => (∃ i : Int, e = .returned (.int .i64 i) ∧ decide (0 ≤ i) = !allZ bs) ∧ w = w' := by
  have HA := Lib.hid h
  have eg := entersZero
  clear h
  go_enter Tryz.func98, Tryz.ntmps98
  go_wp2_with fail
  obtain ⟨wo, rfl⟩ : ∃ wo : World, wo = w := ⟨_, rfl⟩
  go_loopw [8] (fun v wr => ∃ k : Nat, k ≤ bs.length ∧ v = .int .i64 k ∧ allZ (bs.take k) = true ∧ wr = wo) (fun v _ => bs.length - (intOf v).toNat)
  case atStart => exact ⟨0, Nat.zero_le _, rfl, rfl, rfl⟩
  case round =>
    obtain ⟨k, hk, rfl, hf, rfl⟩ := hrel
    by_cases hlt : k < bs.length
    · have hd : decide ((k : Int) < (bs.length : Int)) = true := by simp; omega
      obtain ⟨g, off, rfl, hg, hx⟩ := HA.out k (bs[k]'hlt) (by simp)
      have hbk : bs[k]? = some (bs[k]'hlt) := by simp
      generalize bs[k]'hlt = c at hx hbk
      have HCALL := zeroF c
      have HF := Lib.hid hf
      have HBK := Lib.hid hbk
      clear hf hbk
      by_cases hc : c = 0
      · have hb : (c != 0) = false := by simp [hc]
        rw [hb] at HCALL
        have HC := Lib.hid hc
        clear hc hb
        go_wp2_with (go_at_fn 62; refine (HCALL _).mono ?_; rintro e w1 ⟨rfl, rfl⟩)
        go_roundw
        case rel => exact ⟨k + 1, by omega, by go_num, (by
          unfold allZ at *
          rw [List.take_add_one, HBK.out, List.all_append, HF.out, HC.out]
          rfl), trivial⟩
        case measure => simp [intOf]; omega
      · have hb : (c != 0) = true := by simp [hc]
        rw [hb] at HCALL
        have HN : Hid (allZ bs = false) := Lib.hid (by
          unfold allZ
          rw [List.all_eq_false]
          exact ⟨c, List.mem_of_getElem? HBK.out, by simp [hc]⟩)
        clear hc hb
        go_wp2_with (go_at_fn 62; refine (HCALL _).mono ?_; rintro e w1 ⟨rfl, rfl⟩)
        go_ret
        exact ⟨⟨(k : Int), rfl, by rw [HN.out]; simp⟩, rfl⟩
    · have : k = bs.length := by omega
      subst this
      have hd : decide ((bs.length : Int) < (bs.length : Int)) = false := by simp
      rw [List.take_length] at hf
      have HF := Lib.hid hf
      clear hf
      go_wp2_with fail
      go_ret
      exact ⟨⟨-1, rfl, by rw [HF.out]; rfl⟩, rfl⟩
theorem zeros_any (A : Option Addr) (cap : Nat) (bs : List UInt8) (w : World) (h : bAt w A bs) (hs : bs.length ≤ 100000) :
    Calls Tryz.prog 40 #[.slice A bs.length cap] w fun e w' => e = .returned (.bool (allZ bs)) ∧ w = w' := by
  have hh : Calls Tryz.prog 61 #[.slice A bs.length cap, .func (.func 62) #[] #[]] w fun e w' => e = .returned (.bool (!allZ bs)) ∧ w = w' := by
    have hidx := idxZ_any A cap bs w h hs
    clear h
    go_enter Tryz.func61, Tryz.ntmps61
    go_wp2_with fail
    refine hidx.mono ?_
    rintro e w1 ⟨⟨i, rfl, hi⟩, rfl⟩
    have HZ : Hid (∃ b, allZ bs = !b ∧ decide (0 ≤ i) = b) := Lib.hid ⟨!allZ bs, by simp, hi⟩
    obtain ⟨b, hb, hi⟩ := HZ.out
    have HB := Lib.hid hb
    clear hidx hb
    go_wp2_with fail
    go_ret
    exact ⟨by rw [HB.out, Bool.not_not]; rfl, rfl⟩
  clear h
  go_enter Tryz.func40, Tryz.ntmps40
  go_wp2_with fail
  refine hh.mono ?_
  rintro e w1 ⟨rfl, rfl⟩
  clear hh
  obtain ⟨b, hb⟩ : ∃ b, allZ bs = b := ⟨_, rfl⟩
  rw [hb]
  have HB := Lib.hid hb
  clear hb
  cases b
  · go_wp2_with fail
    go_ret
    exact ⟨by rw [HB.out]; rfl, rfl⟩
  · go_wp2_with fail
    go_ret
    exact ⟨by rw [HB.out]; rfl, rfl⟩
end Go.Proofs.YtfakfhbcpldeoaaGreatDoor
