/- addr.keyFault at a key that has no lease; addr.take. -/
import Derived.Test.YtajifionclpphaaGreatDoorPoH
namespace Go.Proofs.YtajifionclpphaaGreatDoor
open Go.RowKit Go.Hw
theorem entersK1 : ∀ args w, (callFunc 175 args).run Tryz.prog w = .ok (.enter 175 args) w := enters_of Tryz.func175 (by kernel_rfl) rfl
set_option maxRecDepth 100000 in
set_option maxHeartbeats 1000000 in
theorem keyF1 (key : List UInt8) (l : Le) (kb : Nat) (w : World) (hb : w.heap[kb]? = some (.cells #[.string ⟨key.toArray⟩] 9 (0, 0))) :
    Calls Tryz.prog 175 #[.agg #[.string ⟨l.key.toArray⟩, .bool l.pf.six, .int .u64 l.pf.hi, .int .u64 l.pf.lo, .int .i64 l.pf.bits], .pointer (some ⟨kb, 0, none⟩)] w fun e w' => e = .returned (.bool (l.key == key)) ∧ Below w.heap.size w w' := by
  have HB : Hid (Below w.heap.size w (w.alloc (.cells #[.string ⟨l.key.toArray⟩, .bool l.pf.six, .int .u64 l.pf.hi, .int .u64 l.pf.lo, .int .i64 l.pf.bits] 67 (0, 0)))) := Lib.hid ((Below.refl _ _).alloc (Nat.le_refl _) _)
  have b1 := heap_alloc_new w (.cells #[.string ⟨l.key.toArray⟩, .bool l.pf.six, .int .u64 l.pf.hi, .int .u64 l.pf.lo, .int .i64 l.pf.bits] 67 (0, 0))
  have b2 := (Below.heap_alloc w (.cells #[.string ⟨l.key.toArray⟩, .bool l.pf.six, .int .u64 l.pf.hi, .int .u64 l.pf.lo, .int .i64 l.pf.bits] 67 (0, 0)) _ (lt_of_block hb)).trans hb
  obtain ⟨⟨k0, k1, k2, k3, k4⟩, -⟩ := res5 b1
  have c0 := cell_of_one b2
  clear hb b1 b2
  go_enter Tryz.func175, Tryz.ntmps175
  go_upto_region 1 with (fail)
  generalize World.alloc w _ = W at k0 k1 k2 k3 k4 c0 HB ⊢
  go_wp2_with fail
  go_ret
  exact ⟨rfl, HB.out⟩
set_option maxRecDepth 100000 in
set_option maxHeartbeats 4000000 in
theorem keyFault0 (P : Pl) (key : List UInt8) (AK AL : Option Addr) (ck cl : Nat) (w : World) (h : PlAt w P AK AL cl) (hf : FinePl P) (hk : isKey ⟨key.toArray⟩ = true) (hk2 : key.length ≤ 40) (hno : ∀ x ∈ P.ls, x.key ≠ key) :
    Calls Tryz.prog 113 #[plV P.pf (.slice AK P.kept.length ck) (.slice AL P.ls.length cl), .string ⟨key.toArray⟩] w fun e w' => e = .returned (.int .i64 0) ∧ Below w.heap.size w w' := by
  have HF := Lib.hid hf
  have HN : Hid (P.ls.any (fun l => l.key == key) = false) := Lib.hid (by
    rw [List.any_eq_false]
    intro x hx h
    exact hno x hx (eq_of_beq h))
  have hn2 := hf.n2
  have b1 : Below w.heap.size w ((w.alloc (plBox P.pf (.slice AK P.kept.length ck) (.slice AL P.ls.length cl))).alloc (.cells #[.string ⟨key.toArray⟩] 9 (0, 0))) := ((Below.refl _ _).alloc (Nat.le_refl _) _).alloc (by simp) _
  have b0 : ((w.alloc (plBox P.pf (.slice AK P.kept.length ck) (.slice AL P.ls.length cl))).alloc (.cells #[.string ⟨key.toArray⟩] 9 (0, 0))).heap[w.heap.size]? = some (plBox P.pf (.slice AK P.kept.length ck) (.slice AL P.ls.length cl)) := (heap_alloc_old _ _ (by simp)).trans (heap_alloc_new w _)
  have b2 : ((w.alloc (plBox P.pf (.slice AK P.kept.length ck) (.slice AL P.ls.length cl))).alloc (.cells #[.string ⟨key.toArray⟩] 9 (0, 0))).heap[w.heap.size + 1]? = some (.cells #[.string ⟨key.toArray⟩] 9 (0, 0)) := by
    have := heap_alloc_new (w.alloc (plBox P.pf (.slice AK P.kept.length ck) (.slice AL P.ls.length cl))) (.cells #[.string ⟨key.toArray⟩] 9 (0, 0))
    simp only [Re_size] at this
    exact this
  have HB := Lib.hid b1
  have H0 := Lib.hid (h.below b1)
  clear h hf b1 hno
  unfold plV
  unfold plBox at b0 b2 HB H0
  go_enter Tryz.func113, Tryz.ntmps113
  go_upto_region 1 with (fail)
  generalize World.alloc (World.alloc w _) _ = W at b0 b2 HB H0 ⊢
  generalize w.heap.size + 1 = kb at b2 ⊢
  have BX := Lib.hid b0
  have BK := Lib.hid b2
  obtain ⟨⟨x0, x1, x2, x3, x4, x5⟩, -⟩ := res6r b0
  clear b0 b2
  have hck := H0.out.check HF.out ck
  unfold plV at hck
  go_wp2_with fail
  refine hck.mono ?_
  rintro e W1 ⟨rfl, hb1⟩
  have BX1 := Lib.hid ((hb1.block _ (lt_of_block BX.out)).trans BX.out)
  have BK1 := Lib.hid ((hb1.block _ (lt_of_block BK.out)).trans BK.out)
  have HB1 := Lib.hid (HB.out.trans (hb1.mono HB.out.size))
  have H1 := Lib.hid (H0.out.below hb1)
  clear hck hb1 x0 x1 x2 x3 x4 x5 BX BK HB H0
  obtain ⟨⟨x0, x1, x2, x3, x4, x5⟩, -⟩ := res6r BX1.out
  have c0 := cell_of_one BK1.out
  go_wp2_with fail
  refine (isKey_any ⟨key.toArray⟩ W1 (by show key.length ≤ maxLen; unfold maxLen; omega)).mono ?_
  rintro e W2 ⟨rfl, rfl⟩
  rw [hk]
  have hc := le_any AL cl P.ls 175 #[.pointer (some ⟨kb, 0, none⟩)] (fun l => l.key == key) W1 entersK1 H1.out.ls (by omega) (fun V e _ hbv => keyF1 key e kb V ((hbv.block _ (lt_of_block BK1.out)).trans BK1.out))
  rw [HN.out] at hc
  go_wp2_with fail
  refine hc.mono ?_
  rintro e W3 ⟨rfl, hb3⟩
  have HB3 := Lib.hid (HB1.out.trans (hb3.mono HB1.out.size))
  clear hc hb3
  go_wp2_with fail
  go_ret
  exact ⟨rfl, HB3.out⟩
end Go.Proofs.YtajifionclpphaaGreatDoor
