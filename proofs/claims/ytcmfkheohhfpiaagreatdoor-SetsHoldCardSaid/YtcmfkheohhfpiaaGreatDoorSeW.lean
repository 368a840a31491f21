/- SetsHold: the walk. -/
import Derived.Test.YtcmfkheohhfpiaaGreatDoorSeA
import Derived.Test.YtcmfkheohhfpiaaGreatDoorAdS
import Derived.Test.YtcmfkheohhfpiaaGreatDoorRyF
import Derived.Test.YtcmfkheohhfpiaaGreatDoorHbo
import Derived.Laws.AppendOwnNone
namespace Go.Proofs.YtcmfkheohhfpiaaGreatDoor
open Go.RowKit Go.Hw
/-- What stands: the address, the two sets. -/
structure SeI (w : World) (nb : Nat) (x : Ad) (A B : Option Addr) (P Q : List Pf) (W : World) : Prop where
 below : Below w.heap.size w W
 blk : W.heap[nb]? = some (.cells #[.bool x.six, .int .u64 x.hi, .int .u64 x.lo] 30 (0, 0))
 a : pxAt W A P
 b : pxAt W B Q
theorem SeI.call {w W W' : World} {nb : Nat} {x : Ad} {A B : Option Addr} {P Q : List Pf} (h : SeI w nb x A B P Q W) (hb : Below W.heap.size W W') : SeI w nb x A B P Q W' :=
 ⟨h.below.trans (hb.mono h.below.size), (hb.block _ (lt_of_block h.blk)).trans h.blk, h.a.below hb, h.b.below hb⟩
def BIs (b : Bool) (p : Prop) : Prop := b = true ↔ p
theorem bool_or {a b c : Bool} {p q : Prop} (ha : BIs a p) (hb : BIs b q) (hc : c = true ↔ p ∨ q) : c = (a || b) := by
 unfold BIs at ha hb
 rw [Bool.eq_iff_iff, Bool.or_eq_true, hc, ha, hb]
theorem bool_and {a b c : Bool} {p q : Prop} (ha : BIs a p) (hb : BIs b q) (hc : c = true ↔ p ∧ q) : c = (a && b) := by
 unfold BIs at ha hb
 rw [Bool.eq_iff_iff, Bool.and_eq_true, hc, ha, hb]
theorem bool_less {a b c : Bool} {p q : Prop} (ha : BIs a p) (hb : BIs b q) (hc : c = true ↔ p ∧ ¬ q) : c = (a && !b) := by
 unfold BIs at ha hb
 cases a <;> cases b <;> cases c <;> simp_all
theorem bool_not {a c : Bool} {p u : Prop} (hu : u) (ha : BIs a p) (hc : c = true ↔ u ∧ ¬ p) : c = !a := by
 unfold BIs at ha
 cases a <;> cases c <;> simp_all
set_option maxRecDepth 100000 in
set_option maxHeartbeats 4000000 in
theorem setsHold_any (A : Option Addr) (cap : Nat) (l : List Int) (w : World) (hA : ∀ i, i < l.length → ∃ g off, A = some ⟨g, off, none⟩ ∧ g < w.heap.size ∧ w.cell? ⟨g, off + i, none⟩ = some (.int .i64 (l.getD i 0)))
  (hfits : ∀ i, -9223372036854775808 ≤ l.getD i 0 ∧ l.getD i 0 ≤ 9223372036854775807) (hlong : l.length ≤ 17592186044416) (hmx : MxW w) :
  Calls Tryz.prog 3 #[.slice A l.length cap] w fun e w' => e = .returned (.bool true) ∧ Below w.heap.size w w' := by
 obtain ⟨i0, hi0, hz0, hz1, hz2⟩ := info_parts px_info
 have hs0 : Str (w.alloc (.cells #[.slice A l.length cap, .int .i64 0] 25)) w.heap.size A cap l 0 := {
  cell := heap_alloc_new w _
  ints := fun i hi => by
   obtain ⟨g, off, h1, h2, h3⟩ := hA i hi
   exact ⟨g, off, h1, h2, by rw [World.cell?_alloc_lt _ _ _ h2]; exact h3⟩
  fits := hfits
  long := hlong
  low := by omega
  high := by omega }
 have hB0 : Below w.heap.size w (w.alloc (.cells #[.slice A l.length cap, .int .i64 0] 25)) := (Below.refl _ _).alloc (Nat.le_refl _) _
 have HS := Lib.hid hs0
 have HB := Lib.hid hB0
 have HM := Lib.hid hmx
 clear hs0 hB0 hA hfits hmx
 go_enter Tryz.func3, Tryz.ntmps3
 go_upto_region 2 with (fail)
 generalize hW : World.alloc _ _ = W1 at HS HB ⊢
 clear hW
 have hb0 := HS.out.lt
 go_wp2_with fail
 refine (rightSet_any w.heap.size A cap l 0 W1 HS.out (by omega)).mono ?_
 rintro e W2 ⟨v1, PA, SA, x1, rfl, ho1, hsa, hla, hx1, hs1, hg1⟩
 obtain ⟨A1, c1, rfl, ha1, -⟩ := px_own ho1
 have HT1 := Lib.hid ha1
 have HS1 := Lib.hid hs1
 have HG1 := Lib.hid hg1
 have HSA := Lib.hid hsa
 have HNE1 : Hid (∀ a, A1 = some a → some a.block ≠ some w.heap.size) := Lib.hid (fun a ha e => by
  injection e with e
  have := (ho1.lt a.block (by rw [ha]; rfl)).1
  omega)
 have hz1 := hg1.size
 clear ha1 ho1 hs1 hg1 hsa
 go_wp2_with fail
 refine (rightSet_any w.heap.size A cap l x1 W2 HS1.out (by omega)).mono ?_
 rintro e W3 ⟨v2, PB, SB, x2, rfl, ho2, hsb, hlb, hx2, hs2, hg2⟩
 obtain ⟨A2, c2, rfl, ha2, -⟩ := px_own ho2
 have HT2 := Lib.hid ha2
 have HS2 := Lib.hid hs2
 have HSB := Lib.hid hsb
 have HT12 := Lib.hid (HT1.out.grown hg2 HNE1.out)
 have HG2 := Lib.hid (HG1.out.andThen hg2 (fun _ h => .inr h))
 have HNE2 : Hid (∀ a, A2 = some a → some a.block ≠ some w.heap.size) := Lib.hid (fun a ha e => by
  injection e with e
  have := (ho2.lt a.block (by rw [ha]; rfl)).1
  omega)
 clear ha2 ho2 hs2 hg2 hsb
 go_wp2_with fail
 refine (addr_det w.heap.size A cap l x2 W3 HS2.out (by omega)).mono ?_
 rintro e W4 ⟨six, hi, lo, x3, -, rfl, hfa, hx3, hs3, hg3⟩
 obtain ⟨x, ha⟩ : ∃ x : Ad, x = ⟨six, hi, lo⟩ := ⟨_, rfl⟩
 have e1 : six = x.six := by rw [ha]
 have e2 : hi = x.hi := by rw [ha]
 have e3 : lo = x.lo := by rw [ha]
 subst e1 e2 e3
 clear ha
 have HFA : Hid (fineA x) := Lib.hid hfa
 have HB4 : Hid (Below w.heap.size w W4) := Lib.hid (HB.out.grown (HG2.out.andThen hg3 (fun _ h => .inr h)) HB.out.size (fun j e => by injection e with e; omega))
 have HI : Hid (SeI w W4.heap.size x A1 A2 PA PB (W4.alloc (.cells #[.bool x.six, .int .u64 x.hi, .int .u64 x.lo] 30 (0, 0)))) := Lib.hid ⟨HB4.out.alloc HB4.out.size _, heap_alloc_new _ _, (HT12.out.grown hg3 HNE1.out).below ((Below.refl _ _).alloc (Nat.le_refl _) _), (HT2.out.grown hg3 HNE2.out).below ((Below.refl _ _).alloc (Nat.le_refl _) _)⟩
 clear hfa hx3 hs3 hg3 HB4 HT12 HT1 HT2 HG1 HG2 HS HS1 HS2 HB hx1 hx2 hz1 hb0 HNE1 HNE2
 go_upto_region 3 with (fail)
 generalize World.alloc W4 _ = V0 at HI ⊢
 generalize W4.heap.size = nb at HI ⊢
 go_wp2_with fail
 refine (seHas_any A1 c1 PA SA x nb V0 HI.out.a HSA.out (by omega) HFA.out HI.out.blk).mono ?_
 rintro e V1 ⟨bi, rfl, hbi, hb1⟩
 have HI1 := Lib.hid (HI.out.call hb1)
 have HBI := Lib.hid (show BIs bi _ from hbi)
 clear hbi hb1 HI
 go_wp2_with fail
 refine (seHas_any A2 c2 PB SB x nb V1 HI1.out.b HSB.out (by omega) HFA.out HI1.out.blk).mono ?_
 rintro e V2 ⟨bo, rfl, hbo, hb2⟩
 have HI2 := Lib.hid (HI1.out.call hb2)
 have HBO := Lib.hid (show BIs bo _ from hbo)
 clear hbo hb2 HI1
 go_upto_region 5 with (fail)
 go_cut [89] from 39 to 89 (fun v89 wc => v89 = .bool false ∧ SeI w nb x A1 A2 PA PB wc)
 case first =>
  cases bi <;> cases bo
  ·have hop3 := union_got (ca := c1) (cb := c2) HI2.out.a HI2.out.b HSA.out HSB.out (by omega)
   go_wp2_with fail
   refine hop3.mono ?_
   rintro e V3 ⟨A3, c3, P3, T3, rfl, ha3, hs3, hp3, hl3, hb3⟩
   have HI3 := Lib.hid (HI2.out.call hb3)
   have hha3 := seHas_any A3 c3 P3 T3 x nb V3 ha3 hs3 hl3 HFA.out HI3.out.blk
   have HP3 := Lib.hid (hp3 (keyA x))
   clear hop3 ha3 hs3 hp3 hl3 hb3 HI2
   go_wp2_with fail
   refine hha3.mono ?_
   rintro e V4 ⟨b3, rfl, hb3, hbl3⟩
   have HI4 := Lib.hid (HI3.out.call hbl3)
   obtain rfl : b3 = false := bool_or HBI.out HBO.out (hb3.trans HP3.out)
   clear hha3 hb3 hbl3 HI3 HP3
   have hop5 := both_got (ca := c1) (cb := c2) HI4.out.a HI4.out.b HSA.out HSB.out (by omega)
   go_wp2_with fail
   refine hop5.mono ?_
   rintro e V5 ⟨A5, c5, P5, T5, rfl, ha5, hs5, hp5, hl5, hb5⟩
   have HI5 := Lib.hid (HI4.out.call hb5)
   have hha5 := seHas_any A5 c5 P5 T5 x nb V5 ha5 hs5 hl5 HFA.out HI5.out.blk
   have HP5 := Lib.hid (hp5 (keyA x))
   clear hop5 ha5 hs5 hp5 hl5 hb5 HI4
   go_wp2_with fail
   refine hha5.mono ?_
   rintro e V6 ⟨b5, rfl, hb5, hbl5⟩
   have HI6 := Lib.hid (HI5.out.call hbl5)
   obtain rfl : b5 = false := bool_and HBI.out HBO.out (hb5.trans HP5.out)
   clear hha5 hb5 hbl5 HI5 HP5
   have hop7 := without_got (ca := c1) (cb := c2) HI6.out.a HI6.out.b HSA.out HSB.out (by omega)
   go_wp2_with fail
   refine hop7.mono ?_
   rintro e V7 ⟨A7, c7, P7, T7, rfl, ha7, hs7, hp7, hl7, hb7⟩
   have HI7 := Lib.hid (HI6.out.call hb7)
   have hha7 := seHas_any A7 c7 P7 T7 x nb V7 ha7 hs7 hl7 HFA.out HI7.out.blk
   have HP7 := Lib.hid (hp7 (keyA x))
   clear hop7 ha7 hs7 hp7 hl7 hb7 HI6
   go_wp2_with fail
   refine hha7.mono ?_
   rintro e V8 ⟨b7, rfl, hb7, hbl7⟩
   have HI8 := Lib.hid (HI7.out.call hbl7)
   obtain rfl : b7 = false := bool_less HBI.out HBO.out (hb7.trans HP7.out)
   clear hha7 hb7 hbl7 HI7 HP7
   have hop9 := rest_got (ca := c1) HI8.out.a HSA.out (by omega)
   go_wp2_with fail
   refine hop9.mono ?_
   rintro e V9 ⟨A9, c9, P9, T9, rfl, ha9, hs9, hp9, hl9, hb9⟩
   have HI9 := Lib.hid (HI8.out.call hb9)
   have hha9 := seHas_any A9 c9 P9 T9 x nb V9 ha9 hs9 hl9 HFA.out HI9.out.blk
   have HP9 := Lib.hid (hp9 (keyA x))
   clear hop9 ha9 hs9 hp9 hl9 hb9 HI8
   go_wp2_with fail
   refine hha9.mono ?_
   rintro e V10 ⟨b9, rfl, hb9, hbl9⟩
   have HI10 := Lib.hid (HI9.out.call hbl9)
   obtain rfl : b9 = true := bool_not (key_in HFA.out) HBI.out (hb9.trans HP9.out)
   clear hha9 hb9 hbl9 HI9 HP9
   go_wp2_with fail
   go_meet
   exact ⟨rfl, HI10.out⟩
  ·have hop3 := union_got (ca := c1) (cb := c2) HI2.out.a HI2.out.b HSA.out HSB.out (by omega)
   go_wp2_with fail
   refine hop3.mono ?_
   rintro e V3 ⟨A3, c3, P3, T3, rfl, ha3, hs3, hp3, hl3, hb3⟩
   have HI3 := Lib.hid (HI2.out.call hb3)
   have hha3 := seHas_any A3 c3 P3 T3 x nb V3 ha3 hs3 hl3 HFA.out HI3.out.blk
   have HP3 := Lib.hid (hp3 (keyA x))
   clear hop3 ha3 hs3 hp3 hl3 hb3 HI2
   go_wp2_with fail
   refine hha3.mono ?_
   rintro e V4 ⟨b3, rfl, hb3, hbl3⟩
   have HI4 := Lib.hid (HI3.out.call hbl3)
   obtain rfl : b3 = true := bool_or HBI.out HBO.out (hb3.trans HP3.out)
   clear hha3 hb3 hbl3 HI3 HP3
   have hop5 := both_got (ca := c1) (cb := c2) HI4.out.a HI4.out.b HSA.out HSB.out (by omega)
   go_wp2_with fail
   refine hop5.mono ?_
   rintro e V5 ⟨A5, c5, P5, T5, rfl, ha5, hs5, hp5, hl5, hb5⟩
   have HI5 := Lib.hid (HI4.out.call hb5)
   have hha5 := seHas_any A5 c5 P5 T5 x nb V5 ha5 hs5 hl5 HFA.out HI5.out.blk
   have HP5 := Lib.hid (hp5 (keyA x))
   clear hop5 ha5 hs5 hp5 hl5 hb5 HI4
   go_wp2_with fail
   refine hha5.mono ?_
   rintro e V6 ⟨b5, rfl, hb5, hbl5⟩
   have HI6 := Lib.hid (HI5.out.call hbl5)
   obtain rfl : b5 = false := bool_and HBI.out HBO.out (hb5.trans HP5.out)
   clear hha5 hb5 hbl5 HI5 HP5
   have hop7 := without_got (ca := c1) (cb := c2) HI6.out.a HI6.out.b HSA.out HSB.out (by omega)
   go_wp2_with fail
   refine hop7.mono ?_
   rintro e V7 ⟨A7, c7, P7, T7, rfl, ha7, hs7, hp7, hl7, hb7⟩
   have HI7 := Lib.hid (HI6.out.call hb7)
   have hha7 := seHas_any A7 c7 P7 T7 x nb V7 ha7 hs7 hl7 HFA.out HI7.out.blk
   have HP7 := Lib.hid (hp7 (keyA x))
   clear hop7 ha7 hs7 hp7 hl7 hb7 HI6
   go_wp2_with fail
   refine hha7.mono ?_
   rintro e V8 ⟨b7, rfl, hb7, hbl7⟩
   have HI8 := Lib.hid (HI7.out.call hbl7)
   obtain rfl : b7 = false := bool_less HBI.out HBO.out (hb7.trans HP7.out)
   clear hha7 hb7 hbl7 HI7 HP7
   have hop9 := rest_got (ca := c1) HI8.out.a HSA.out (by omega)
   go_wp2_with fail
   refine hop9.mono ?_
   rintro e V9 ⟨A9, c9, P9, T9, rfl, ha9, hs9, hp9, hl9, hb9⟩
   have HI9 := Lib.hid (HI8.out.call hb9)
   have hha9 := seHas_any A9 c9 P9 T9 x nb V9 ha9 hs9 hl9 HFA.out HI9.out.blk
   have HP9 := Lib.hid (hp9 (keyA x))
   clear hop9 ha9 hs9 hp9 hl9 hb9 HI8
   go_wp2_with fail
   refine hha9.mono ?_
   rintro e V10 ⟨b9, rfl, hb9, hbl9⟩
   have HI10 := Lib.hid (HI9.out.call hbl9)
   obtain rfl : b9 = true := bool_not (key_in HFA.out) HBI.out (hb9.trans HP9.out)
   clear hha9 hb9 hbl9 HI9 HP9
   go_wp2_with fail
   go_meet
   exact ⟨rfl, HI10.out⟩
  ·have hop3 := union_got (ca := c1) (cb := c2) HI2.out.a HI2.out.b HSA.out HSB.out (by omega)
   go_wp2_with fail
   refine hop3.mono ?_
   rintro e V3 ⟨A3, c3, P3, T3, rfl, ha3, hs3, hp3, hl3, hb3⟩
   have HI3 := Lib.hid (HI2.out.call hb3)
   have hha3 := seHas_any A3 c3 P3 T3 x nb V3 ha3 hs3 hl3 HFA.out HI3.out.blk
   have HP3 := Lib.hid (hp3 (keyA x))
   clear hop3 ha3 hs3 hp3 hl3 hb3 HI2
   go_wp2_with fail
   refine hha3.mono ?_
   rintro e V4 ⟨b3, rfl, hb3, hbl3⟩
   have HI4 := Lib.hid (HI3.out.call hbl3)
   obtain rfl : b3 = true := bool_or HBI.out HBO.out (hb3.trans HP3.out)
   clear hha3 hb3 hbl3 HI3 HP3
   have hop5 := both_got (ca := c1) (cb := c2) HI4.out.a HI4.out.b HSA.out HSB.out (by omega)
   go_wp2_with fail
   refine hop5.mono ?_
   rintro e V5 ⟨A5, c5, P5, T5, rfl, ha5, hs5, hp5, hl5, hb5⟩
   have HI5 := Lib.hid (HI4.out.call hb5)
   have hha5 := seHas_any A5 c5 P5 T5 x nb V5 ha5 hs5 hl5 HFA.out HI5.out.blk
   have HP5 := Lib.hid (hp5 (keyA x))
   clear hop5 ha5 hs5 hp5 hl5 hb5 HI4
   go_wp2_with fail
   refine hha5.mono ?_
   rintro e V6 ⟨b5, rfl, hb5, hbl5⟩
   have HI6 := Lib.hid (HI5.out.call hbl5)
   obtain rfl : b5 = false := bool_and HBI.out HBO.out (hb5.trans HP5.out)
   clear hha5 hb5 hbl5 HI5 HP5
   have hop7 := without_got (ca := c1) (cb := c2) HI6.out.a HI6.out.b HSA.out HSB.out (by omega)
   go_wp2_with fail
   refine hop7.mono ?_
   rintro e V7 ⟨A7, c7, P7, T7, rfl, ha7, hs7, hp7, hl7, hb7⟩
   have HI7 := Lib.hid (HI6.out.call hb7)
   have hha7 := seHas_any A7 c7 P7 T7 x nb V7 ha7 hs7 hl7 HFA.out HI7.out.blk
   have HP7 := Lib.hid (hp7 (keyA x))
   clear hop7 ha7 hs7 hp7 hl7 hb7 HI6
   go_wp2_with fail
   refine hha7.mono ?_
   rintro e V8 ⟨b7, rfl, hb7, hbl7⟩
   have HI8 := Lib.hid (HI7.out.call hbl7)
   obtain rfl : b7 = true := bool_less HBI.out HBO.out (hb7.trans HP7.out)
   clear hha7 hb7 hbl7 HI7 HP7
   have hop9 := rest_got (ca := c1) HI8.out.a HSA.out (by omega)
   go_wp2_with fail
   refine hop9.mono ?_
   rintro e V9 ⟨A9, c9, P9, T9, rfl, ha9, hs9, hp9, hl9, hb9⟩
   have HI9 := Lib.hid (HI8.out.call hb9)
   have hha9 := seHas_any A9 c9 P9 T9 x nb V9 ha9 hs9 hl9 HFA.out HI9.out.blk
   have HP9 := Lib.hid (hp9 (keyA x))
   clear hop9 ha9 hs9 hp9 hl9 hb9 HI8
   go_wp2_with fail
   refine hha9.mono ?_
   rintro e V10 ⟨b9, rfl, hb9, hbl9⟩
   have HI10 := Lib.hid (HI9.out.call hbl9)
   obtain rfl : b9 = false := bool_not (key_in HFA.out) HBI.out (hb9.trans HP9.out)
   clear hha9 hb9 hbl9 HI9 HP9
   go_wp2_with fail
   go_meet
   exact ⟨rfl, HI10.out⟩
  ·have hop3 := union_got (ca := c1) (cb := c2) HI2.out.a HI2.out.b HSA.out HSB.out (by omega)
   go_wp2_with fail
   refine hop3.mono ?_
   rintro e V3 ⟨A3, c3, P3, T3, rfl, ha3, hs3, hp3, hl3, hb3⟩
   have HI3 := Lib.hid (HI2.out.call hb3)
   have hha3 := seHas_any A3 c3 P3 T3 x nb V3 ha3 hs3 hl3 HFA.out HI3.out.blk
   have HP3 := Lib.hid (hp3 (keyA x))
   clear hop3 ha3 hs3 hp3 hl3 hb3 HI2
   go_wp2_with fail
   refine hha3.mono ?_
   rintro e V4 ⟨b3, rfl, hb3, hbl3⟩
   have HI4 := Lib.hid (HI3.out.call hbl3)
   obtain rfl : b3 = true := bool_or HBI.out HBO.out (hb3.trans HP3.out)
   clear hha3 hb3 hbl3 HI3 HP3
   have hop5 := both_got (ca := c1) (cb := c2) HI4.out.a HI4.out.b HSA.out HSB.out (by omega)
   go_wp2_with fail
   refine hop5.mono ?_
   rintro e V5 ⟨A5, c5, P5, T5, rfl, ha5, hs5, hp5, hl5, hb5⟩
   have HI5 := Lib.hid (HI4.out.call hb5)
   have hha5 := seHas_any A5 c5 P5 T5 x nb V5 ha5 hs5 hl5 HFA.out HI5.out.blk
   have HP5 := Lib.hid (hp5 (keyA x))
   clear hop5 ha5 hs5 hp5 hl5 hb5 HI4
   go_wp2_with fail
   refine hha5.mono ?_
   rintro e V6 ⟨b5, rfl, hb5, hbl5⟩
   have HI6 := Lib.hid (HI5.out.call hbl5)
   obtain rfl : b5 = true := bool_and HBI.out HBO.out (hb5.trans HP5.out)
   clear hha5 hb5 hbl5 HI5 HP5
   have hop7 := without_got (ca := c1) (cb := c2) HI6.out.a HI6.out.b HSA.out HSB.out (by omega)
   go_wp2_with fail
   refine hop7.mono ?_
   rintro e V7 ⟨A7, c7, P7, T7, rfl, ha7, hs7, hp7, hl7, hb7⟩
   have HI7 := Lib.hid (HI6.out.call hb7)
   have hha7 := seHas_any A7 c7 P7 T7 x nb V7 ha7 hs7 hl7 HFA.out HI7.out.blk
   have HP7 := Lib.hid (hp7 (keyA x))
   clear hop7 ha7 hs7 hp7 hl7 hb7 HI6
   go_wp2_with fail
   refine hha7.mono ?_
   rintro e V8 ⟨b7, rfl, hb7, hbl7⟩
   have HI8 := Lib.hid (HI7.out.call hbl7)
   obtain rfl : b7 = false := bool_less HBI.out HBO.out (hb7.trans HP7.out)
   clear hha7 hb7 hbl7 HI7 HP7
   have hop9 := rest_got (ca := c1) HI8.out.a HSA.out (by omega)
   go_wp2_with fail
   refine hop9.mono ?_
   rintro e V9 ⟨A9, c9, P9, T9, rfl, ha9, hs9, hp9, hl9, hb9⟩
   have HI9 := Lib.hid (HI8.out.call hb9)
   have hha9 := seHas_any A9 c9 P9 T9 x nb V9 ha9 hs9 hl9 HFA.out HI9.out.blk
   have HP9 := Lib.hid (hp9 (keyA x))
   clear hop9 ha9 hs9 hp9 hl9 hb9 HI8
   go_wp2_with fail
   refine hha9.mono ?_
   rintro e V10 ⟨b9, rfl, hb9, hbl9⟩
   have HI10 := Lib.hid (HI9.out.call hbl9)
   obtain rfl : b9 = false := bool_not (key_in HFA.out) HBI.out (hb9.trans HP9.out)
   clear hha9 hb9 hbl9 HI9 HP9
   go_wp2_with fail
   go_meet
   exact ⟨rfl, HI10.out⟩
 case rest =>
 obtain ⟨rfl, hi9⟩ := hcut
 obtain ⟨V0, rfl⟩ : ∃ V0 : World, V0 = wc := ⟨_, rfl⟩
 have HI0 := Lib.hid hi9
 have hrg := ranges_set A1 c1 PA SA V0 HI0.out.a HSA.out (by omega)
 clear hi9 HI2 HBI HBO
 go_wp2_with fail
 refine hrg.mono ?_
 rintro e V1 ⟨v1, R, rfl, ho1, hr1, hl1, hb1⟩
 have HI1 := Lib.hid (HI0.out.call hb1)
 obtain ⟨A4, c4, rfl, ha4, -⟩ := rg_own ho1
 have HA4 := Lib.hid ha4
 have HR := Lib.hid hr1
 have hrl : R.length ≤ 5 := by omega
 have HSL : Hid ((preS SA).length ≤ 5) := Lib.hid (by rw [← HSA.out.len]; exact hla)
 clear hrg ho1 hr1 hl1 hb1 ha4 HI0
 go_wp2_with fail
 go_loopw [12, 14, 15, 16, 97] (fun v12 _ _ _ v97 wr => ∃ (k : Nat) (Q : List Pf) (sv : Value), k ≤ R.length ∧ v97 = .int .i64 k ∧ sv = v12 ∧ pxOwn wr V1.heap.size sv Q ∧ (∀ p ∈ Q, okP p) ∧ Q.map bkP = preS ((R.take k).map rgS) ∧ Below V1.heap.size V1 wr) (fun _ _ _ _ v97 _ => R.length - (intOf v97).toNat)
 case atStart => exact ⟨0, [], _, Nat.zero_le _, rfl, rfl, World.ownsRow_nil _ _ _ _, (by intro p hp; cases hp), rfl, Below.refl _ _⟩
 case round =>
  obtain ⟨k, Q, sv, hk, rfl, rfl, ho, hqo, hqm, hb⟩ := hrel
  have HO := Lib.hid ho
  have HQO := Lib.hid hqo
  have HQM := Lib.hid hqm
  have HB := Lib.hid hb
  clear ho hqo hqm hb
  by_cases hlt : k < R.length
  ·obtain ⟨gA, off, rfl, hgA, hcc⟩ := (HA4.out.below HB.out) k hlt
   obtain ⟨n0, n1, n2, n3, n4, n5⟩ := rg_cells hcc
   have hd : decide ((k : Int) < (R.length : Int)) = true := by simp; omega
   have HTK := Lib.hid (take_succ' (L := R) noRg hlt)
   have HRO := Lib.hid (HR.out.ok (R.getD k noRg) (rw_mem hlt))
   have HRP : Hid ((preS [rgS (R.getD k noRg)]).length ≤ 5) := Lib.hid (by
    have h1 : rgS (R.getD k noRg) ∈ SA := by rw [← HR.out.map]; exact List.mem_map.2 ⟨_, rw_mem hlt, rfl⟩
    exact Nat.le_trans (preS_part h1) HSL.out)
   generalize R.getD k noRg = r at *
   have HBX := Lib.hid (HB.out.alloc HB.out.size (.cells #[.bool r.six, .int .u64 r.hi, .int .u64 r.lo, .bool r.six2, .int .u64 r.hi2, .int .u64 r.lo2] 43 (0, 0)))
   have HNX := Lib.hid (heap_alloc_new wr (.cells #[.bool r.six, .int .u64 r.hi, .int .u64 r.lo, .bool r.six2, .int .u64 r.hi2, .int .u64 r.lo2] 43 (0, 0)))
   have HOX : Hid (World.ownsRow _ V1.heap.size 48 4 sv Q.length (rwC pxC Q)) := Lib.hid (World.ownsRow.alloc HO.out (.cells #[.bool r.six, .int .u64 r.hi, .int .u64 r.lo, .bool r.six2, .int .u64 r.hi2, .int .u64 r.lo2] 43 (0, 0)))
   clear hcc HO
   go_upto_region 12 with (fail)
   generalize World.alloc wr _ = W2 at *
   generalize wr.heap.size = nr at *
   obtain ⟨⟨n0, n1, n2, n3, n4, n5⟩, -⟩ := res6r HNX.out
   have hsp := span_set r W2 HRO.out (by have := HRP.out; omega)
   go_wp2_with fail
   refine hsp.mono ?_
   rintro e W3 ⟨v3, PR, rfl, ho3, hs3, hb3⟩
   have HB3 := Lib.hid (HBX.out.trans (hb3.mono HBX.out.size))
   have HO3 := Lib.hid (own_belowR HOX.out hb3 (Nat.le_refl _))
   obtain ⟨A5, c5, rfl, ha5, hn5⟩ := px_own ho3
   have HA5 := Lib.hid ha5
   have HS3 := Lib.hid hs3
   have hpr : 0 < PR.length := by
    rw [hs3.len, preS_one]
    exact preG_len (hs3.norm.ok _ (by simp))
   have hpr5 : PR.length ≤ 5 := by rw [hs3.len]; exact HRP.out
   obtain ⟨⟨b5, o5, sp5⟩, rfl⟩ : ∃ a, A5 = some a := by
    rcases A5 with _ | a
    ·have := (hn5 rfl).1
     rw [this] at hpr
     simp at hpr
    ·exact ⟨a, rfl⟩
   have hqr : Q.length ≤ 5 := by
    have h1 := congrArg List.length HQM.out
    have h2 := HSL.out
    rw [List.length_map] at h1
    have h3 : SA = (R.take k).map rgS ++ (R.drop k).map rgS := by rw [← List.map_append, List.take_append_drop]; exact HR.out.map.symm
    rw [h3, preS_append, List.length_append] at h2
    omega
   have hfl : ∀ j u, (rwC pxC PR)[j]? = some u → W3.cell? ((⟨b5, o5, sp5⟩ : Addr).add j) = some u := by
    intro j u hu
    obtain ⟨g, off', e, _, _⟩ := HA5.out 0 (by omega)
    injection e with e
    simp only [Addr.mk.injEq] at e
    obtain ⟨rfl, rfl, rfl⟩ := e
    have e2 : ((⟨b5, o5, none⟩ : Addr).add j) = ⟨b5, o5 + j, none⟩ := by simp [Addr.add]
    rw [e2]
    exact px_flat HA5.out j u hu
   have HFL := Lib.hid hfl
   have hw3 := HB3.out.size
   clear hsp ho3 hs3 hb3 ha5 hn5 hfl n0 n1 n2 n3 n4 n5 HOX HBX HNX
   go_wp2_with (at_builtin; refine wpList_append_own _ rfl (.tmp 108) (.tmp 109) 26 rfl V1.heap.size 48 i0 (.agg #[.bool false, .int .u64 0, .int .u64 0, .int .i64 0]) 4 32 Tryz.underlying26 hi0 hz0 hz1 hz2 rfl (by decide) _ _ _ rfl HO3.out ⟨b5, o5, sp5⟩ PR.length c5 (rwC pxC PR) rfl (rwC_length pxC_len PR) HFL.out (pxs_one PR) (by unfold maxLen; omega) (by omega) (by omega) ?_)
   intro v5 w5 ho5 hg5 _
   have HO5 : Hid (pxOwn w5 V1.heap.size v5 (Q ++ PR)) := Lib.hid (own_asT ho5 (by simp) (by simp [rwC]))
   have HB5 : Hid (Below V1.heap.size V1 w5) := Lib.hid (HB3.out.grown hg5 HB3.out.size (fun j hj => (HO3.out.lt j hj).1))
   have HQ5 : Hid ((∀ p ∈ Q ++ PR, okP p) ∧ (Q ++ PR).map bkP = preS ((R.take (k + 1)).map rgS)) := Lib.hid ⟨fun p hp => (List.mem_append.1 hp).elim (HQO.out p) (HS3.out.ok p), by rw [List.map_append, HQM.out, HS3.out.map, HTK.out, List.map_append, preS_append]; rfl⟩
   clear ho5 hg5
   go_wp2_with fail
   go_roundw
   case rel => exact ⟨k + 1, Q ++ PR, _, by omega, by simp, rfl, HO5.out, HQ5.out.1, HQ5.out.2, HB5.out⟩
   case measure => simp [intOf]; omega
  ·have hkl : k = R.length := by omega
   subst hkl
   have HIr := Lib.hid (HI1.out.call HB.out)
   have HQS : Hid (SetIs Q SA) := Lib.hid ⟨HQO.out, by have := HQM.out; rw [List.take_length, HR.out.map] at this; exact this, HSA.out.norm, HSA.out.fam⟩
   have hqe : Q = PA := HQS.out.eq HSA.out
   subst hqe
   obtain ⟨A6, c6, rfl, ha6, -⟩ := px_own HO.out
   have hls := least_set A6 c6 Q SA wr ha6 HSA.out (by omega)
   clear ha6 HO HQO HQM HB HI1 HA4 hlt
   go_wp2_with fail
   refine hls.mono ?_
   rintro e U1 ⟨v7, P7, rfl, ho7, hs7, hb7⟩
   have HU1 := Lib.hid (HIr.out.call hb7)
   have h7e : P7 = Q := hs7.eq HSA.out
   subst h7e
   obtain ⟨A7, c7, rfl, ha7, -⟩ := px_own ho7
   have HA7 := Lib.hid ha7
   have hcv := covers_set A1 A2 c1 c2 P7 PB SA SB U1 HU1.out.a HU1.out.b HSA.out HSB.out (by omega) (by omega)
   clear hls ho7 hs7 hb7 ha7 HIr
   go_wp2_with fail
   refine hcv.mono ?_
   rintro e U2 ⟨bc, TC, rfl, hc1, hc2, hc3, hb8⟩
   have HU2 := Lib.hid (HU1.out.call hb8)
   have HA8 := Lib.hid (HA7.out.below hb8)
   have HC := Lib.hid (And.intro hc1 (And.intro hc2 (show BIs bc _ from hc3)))
   have hwo := without_got (ca := c2) (cb := c1) HU2.out.b HU2.out.a HSB.out HSA.out (by omega)
   clear hcv hc1 hc2 hc3 hb8 HU1 HA7
   go_wp2_with fail
   refine hwo.mono ?_
   rintro e U3 ⟨A9, c9, P9, T9, rfl, ha9, hs9, hp9, hl9, hb9⟩
   have HU3 := Lib.hid (HU2.out.call hb9)
   have HA9 := Lib.hid (HA8.out.below hb9)
   have HLN : Hid (((P9.length : Int) == 0) = bc) := Lib.hid (by
    have hte : T9 = TC := set_eq hs9.norm HC.out.2.1 (fun k => (hp9 k).trans (HC.out.1 k).symm)
    have h1 : P9.length = 0 ↔ T9 = [] := by rw [hs9.len]; exact preS_nil hs9.norm.ok
    have h2 : bc = true ↔ TC = [] := HC.out.2.2
    rw [Bool.eq_iff_iff, beq_iff_eq, h2, ← hte, ← h1]
    omega)
   have heq := px_equal A7 A1 c7 c1 P7 U3 HA9.out HU3.out.a (by omega)
   clear hwo ha9 hs9 hp9 hl9 hb9 HU2 HA8 HC
   have hln := HLN.out
   go_wp2_with fail
   refine heq.mono ?_
   rintro e U4 ⟨rfl, hb10⟩
   have HU4 := Lib.hid (HU3.out.call hb10)
   clear heq hb10 HU3 HA9
   go_wp2_with fail
   refine (ready2 U4 (HM.out.below HU4.out.below)).mono ?_
   rintro e U5 ⟨rfl, hb11⟩
   have HU5 := Lib.hid (HU4.out.call hb11)
   clear hb11 HU4
   go_wp2_with fail
   go_ret
   exact ⟨rfl, HU5.out.below⟩
end Go.Proofs.YtcmfkheohhfpiaaGreatDoor
