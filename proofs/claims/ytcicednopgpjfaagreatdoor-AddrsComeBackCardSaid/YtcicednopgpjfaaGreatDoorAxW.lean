/- AddrsComeBack: what is written is read as it was, strictly and loosely; what is read strictly is written so. -/
import Derived.Test.YtcicednopgpjfaaGreatDoorAxL
import Derived.Test.YtcicednopgpjfaaGreatDoorAxS
import Derived.Test.YtcicednopgpjfaaGreatDoorRyF
import Derived.Test.YtcicednopgpjfaaGreatDoorHbo
import Derived.Test.YtcicednopgpjfaaGreatDoorRows
import Derived.Handed
import Derived.MakeChecks
import Derived.Lib.LaidTab
import Derived.Stop.LaidErr
import Derived.Shelf.Vars
namespace Go.Proofs.YtcicednopgpjfaaGreatDoor
open Go.RowKit Go.Hw Go.Shelf
/-- Two blocks stand. -/
structure TwoB (w : World) (ba bp : Nat) (oa op : Obj) (W : World) : Prop where
  below : Below w.heap.size w W
  a : W.heap[ba]? = some oa
  p : W.heap[bp]? = some op
theorem TwoB.call {w W W' : World} {ba bp : Nat} {oa op : Obj} (h : TwoB w ba bp oa op W) (hb : Below W.heap.size W W') : TwoB w ba bp oa op W' :=
  ⟨h.below.trans (hb.mono h.below.size), (hb.block _ (lt_of_block h.a)).trans h.a, (hb.block _ (lt_of_block h.p)).trans h.p⟩
theorem TwoB.box {w W : World} {ba bp : Nat} {oa op : Obj} (h : TwoB w ba bp oa op W) (o : Obj) : TwoB w ba bp oa op (W.alloc o) := h.call ((Below.refl _ _).alloc (Nat.le_refl _) o)
set_option maxRecDepth 100000 in
set_option maxHeartbeats 4000000 in
theorem addrsComeBack_any (A : Option Addr) (cap : Nat) (l : List Int) (w : World) (hA : ∀ i, i < l.length → ∃ g off, A = some ⟨g, off, none⟩ ∧ g < w.heap.size ∧ w.cell? ⟨g, off + i, none⟩ = some (.int .i64 (l.getD i 0)))
    (hfits : ∀ i, -9223372036854775808 ≤ l.getD i 0 ∧ l.getD i 0 ≤ 9223372036854775807) (hlong : l.length ≤ 17592186044416) (V : NmVars w) :
    Calls Tryz.prog 3 #[.slice A l.length cap] w fun e w' => e = .returned (.bool true) ∧ Below w.heap.size w w' := by
  have hs0 : Str (w.alloc (.cells #[.slice A l.length cap, .int .i64 0] 25)) w.heap.size A cap l 0 := {
    cell := heap_alloc_new w _
    ints := fun i hi => by
      obtain ⟨g, off, h1, h2, h3⟩ := hA i hi
      exact ⟨g, off, h1, h2, by rw [World.cell?_alloc_lt _ _ _ h2]; exact h3⟩
    fits := hfits
    long := hlong
    low := by omega
    high := by omega }
  have hB0 : Below w.heap.size w (w.alloc (.cells #[.slice A l.length cap, .int .i64 0] 25)) := (Below.refl _ _).alloc (Nat.le_refl _) _
  have HS := Lib.hid hs0
  have HB := Lib.hid hB0
  have HV := Lib.hid V
  have hgd := guard_addr
  have hgp := guard_pf
  clear hs0 hB0 hA hfits V
  go_enter Tryz.func3, Tryz.ntmps3
  go_upto_region 2 with (fail)
  generalize hW : World.alloc _ _ = W1 at HS HB ⊢
  clear hW
  go_wp2_with fail
  refine (addr_any w.heap.size A cap l 0 W1 HS.out (by omega)).mono ?_
  rintro e W2 ⟨six, hi, lo, rfl, hfine, x2, hx20, hx2, hs2, hg2⟩
  have HG2 := Lib.hid hg2
  clear HS
  go_wp2_with fail
  refine (rightPrefix_det w.heap.size A cap l x2 W2 hs2 (by omega)).mono ?_
  rintro e W3 ⟨psix, phi, plo, pbits, x3, ⟨-, hpr⟩, rfl, ⟨hx30, hx3⟩, hs3, hg3⟩
  have HG3 := Lib.hid (HG2.out.andThen hg3 (fun _ h => .inr h))
  have HB3 := Lib.hid (below_of_g9 HB.out HG3.out (Nat.le_refl _))
  have hx39 : x3 < 1099511600000 := by omega
  obtain ⟨H, rfl⟩ := Int.eq_ofNat_of_zero_le hfine.1.1
  obtain ⟨L, rfl⟩ := Int.eq_ofNat_of_zero_le hfine.2.1.1
  have hok : AdOk six H L := ⟨by have := hfine.1; omega, by have := hfine.2.1; omega, fun e => by have := hfine.2.2 e; omega⟩
  obtain ⟨PH, rfl⟩ := Int.eq_ofNat_of_zero_le hpr.1.1.1
  obtain ⟨PL, rfl⟩ := Int.eq_ofNat_of_zero_le hpr.1.2.1.1
  obtain ⟨PB, rfl⟩ := Int.eq_ofNat_of_zero_le hpr.2.1
  have HS3 := Lib.hid hs3
  clear hs2 hs3 hg2 hg3 HG2 hx20 hx2 hx30 hx3 hfine
  go_upto_region 3 with (fail)
  have ht2 : TwoB w W3.heap.size (W3.heap.size + 1) (addrBox six H L) (pfBox psix PH PL PB) ((W3.alloc (addrBox six H L)).alloc (pfBox psix PH PL PB)) := ⟨(HB3.out.alloc HB3.out.size _).alloc (by simp; have := HB3.out.size; omega) _, al21 _ _ _, al22 _ _ _⟩
  have HT := Lib.hid ht2
  clear ht2
  have hsW := (HS3.out.alloc (addrBox six H L)).alloc (pfBox psix PH PL PB)
  have HGW := Lib.hid (grown_of_box (o := pfBox psix PH PL PB) (grown_of_box (o := addrBox six H L) HG3.out))
  unfold addrBox pfBox at HT
  generalize hW : World.alloc _ _ = W4 at HT ⊢
  have HS4 : Hid (Str W4 w.heap.size A cap l x3) := Lib.hid (by rw [← hW]; exact hsW)
  have HG4 : Hid (W1.grownBy W4 (some w.heap.size)) := Lib.hid (by rw [← hW]; exact HGW.out)
  clear hW hsW HGW HS3 HG3 HB3
  generalize W3.heap.size = ba at *
  have b1 := lt_of_block HT.out.a
  obtain ⟨x0, x1, x2', -⟩ := res3 HT.out.a
  go_wp2_with fail
  refine (text_any six H L hok W4 (HV.out.below HT.out.below (Nat.le_refl _))).mono ?_
  rintro e W5 ⟨rfl, hb5⟩
  have HT5 := Lib.hid (HT.out.call hb5)
  have HB5 := Lib.hid hb5
  clear x0 x1 x2' hb5
  have hlT := textA_len six H L
  have hpa := fun W (VW : NmVars W) => parse_any (toB (textA six H L)) W VW (by show (textA six H L).toArray.size ≤ 100000; simp; omega)
  rw [toB_data, parseF_text2 hok] at hpa
  have hlo := fun W (VW : NmVars W) => loose_any (toB (textA six H L)) W VW (by show (textA six H L).toArray.size ≤ 100000; simp; omega)
  rw [toB_data, looseF_text hok] at hlo
  simp only [looseA, looseE] at hpa hlo
  generalize toB (textA six H L) = T at *
  go_wp2_with fail
  refine (hpa W5 (HV.out.below HT5.out.below (Nat.le_refl _))).mono ?_
  rintro e W6 ⟨rfl, hb6⟩
  have HT6 := Lib.hid ((HT5.out.call hb6).box (addrBox six H L))
  have HB6 := Lib.hid (bl_al (o := addrBox six H L) (HB5.out.trans (hb6.mono HB5.out.size)))
  clear hb6 hpa
  have HC1 := Lib.hid (heap_alloc_new W6 (addrBox six H L))
  unfold addrBox at HT6 HB6 HC1
  go_wp2_with fail
  generalize World.alloc W6 _ = W7 at HT6 HB6 HC1 ⊢
  generalize W6.heap.size = c1 at *
  refine (hlo W7 (HV.out.below HT6.out.below (Nat.le_refl _))).mono ?_
  rintro e W8 ⟨rfl, hb8⟩
  have HT8 := Lib.hid ((HT6.out.call hb8).box (addrBox six H L))
  have HB8 := Lib.hid (bl_al (o := addrBox six H L) (HB6.out.trans (hb8.mono HB6.out.size)))
  have HC8 := Lib.hid (old1 (a := addrBox six H L) ((hb8.block _ (lt_of_block HC1.out)).trans HC1.out))
  have HD8 := Lib.hid (heap_alloc_new W8 (addrBox six H L))
  unfold addrBox at HT8 HB8 HC8 HD8
  clear hb8 hlo HT5 HB5 HT6 HB6 HC1
  obtain ⟨⟨p0, p1, p2, p3⟩, -⟩ := res4 HT8.out.p
  have b2 := lt_of_block HT8.out.p
  go_wp2_with fail
  generalize World.alloc W8 _ = W9 at *
  generalize W8.heap.size = c2 at *
  refine (prefixText_any psix PH PL PB hpr W9 (HV.out.below HT8.out.below (Nat.le_refl _))).mono ?_
  rintro e W10 ⟨rfl, hb10⟩
  have HT10 := Lib.hid (HT8.out.call hb10)
  have HB10 := Lib.hid (HB8.out.trans (hb10.mono HB8.out.size))
  have HC10 := Lib.hid ((hb10.block _ (lt_of_block HC8.out)).trans HC8.out)
  have HD10 := Lib.hid ((hb10.block _ (lt_of_block HD8.out)).trans HD8.out)
  clear hb10 p0 p1 p2 p3 HT8 HB8 HC8 HD8
  have hpp := fun W (VW : NmVars W) => parsePrefix_right psix PH PL PB hpr W VW
  generalize toB (textP psix PH PL PB) = T2 at *
  go_wp2_with fail
  refine (hpp W10 (HV.out.below HT10.out.below (Nat.le_refl _))).mono ?_
  rintro e W11 ⟨rfl, hb11⟩
  have HT11 := Lib.hid ((HT10.out.call hb11).box (pfBox psix PH PL PB))
  have HB11 := Lib.hid (bl_al (o := pfBox psix PH PL PB) (HB10.out.trans (hb11.mono HB10.out.size)))
  have HC11 := Lib.hid (old1 (a := pfBox psix PH PL PB) ((hb11.block _ (lt_of_block HC10.out)).trans HC10.out))
  have HD11 := Lib.hid (old1 (a := pfBox psix PH PL PB) ((hb11.block _ (lt_of_block HD10.out)).trans HD10.out))
  have HE11 := Lib.hid (heap_alloc_new W11 (pfBox psix PH PL PB))
  unfold pfBox at HT11 HB11 HC11 HD11 HE11
  clear hb11 hpp HT10 HB10 HC10 HD10
  obtain ⟨x0, x1, x2', -⟩ := res3 HT11.out.a
  obtain ⟨⟨p0, p1, p2, p3⟩, -⟩ := res4 HT11.out.p
  obtain ⟨y0, y1, y2, -⟩ := res3 HC11.out
  obtain ⟨z0, z1, z2, -⟩ := res3 HD11.out
  obtain ⟨⟨q0, q1, q2, q3⟩, -⟩ := res4 HE11.out
  have hq1 := fun W => (run_eq_addr 9998 six six H H L L W).trans (show _ = Result.ok true W from by simp)
  have hq2 := fun W => (run_eq_pf 9997 psix psix PH PH PL PL PB PB W).trans (show _ = Result.ok true W from by simp)
  go_upto_region 8 with (fail)
  generalize World.alloc W11 _ = W12 at *
  generalize W11.heap.size = c3 at *
  have HS12 := Lib.hid (HS4.out.grown (grownB HB11.out none) (fun k e => by cases e))
  have HG12 := Lib.hid (HG4.out.andThen (grownB HB11.out (some w.heap.size)) (fun _ h => .inr h))
  have HB12 := Lib.hid (below_of_g9 HB.out HG12.out (Nat.le_refl _))
  clear HS4 HG4 HB11 HT11 HC11 HD11 HE11
  go_wp2_with fail
  clear x0 x1 x2' p0 p1 p2 p3 y0 y1 y2 z0 z1 z2 q0 q1 q2 q3 hq1 hq2
  refine (addrString_any w.heap.size A cap l x3 W12 HS12.out (by omega) w HV.out HB12.out (Nat.le_refl _)).mono ?_
  rintro e W13 ⟨t, ht, rfl, x4, -, -, -, hg13⟩
  have HB13 := Lib.hid (below_of_g9 HB12.out hg13 (Nat.le_refl _))
  have hpa := fun W (VW : NmVars W) => parse_any t W VW (by omega)
  have hlo := fun W (VW : NmVars W) => loose_any t W VW (by omega)
  have htx : ∀ r, parseF t.data.toList = some r → toB (textA r.1 r.2.1 r.2.2) = t := fun ⟨b, h, k⟩ hr => by
    have := parseF_text hr
    show toB (textA b h k) = t
    rw [this]
    exact toB_of t
  have hlk : ∀ r, parseF t.data.toList = some r → looseF t.data.toList = some r := fun r hr => parseF_loose hr
  clear hg13 HS12 HG12 HB12
  go_wp2_with fail
  refine (hpa W13 (HV.out.below HB13.out (Nat.le_refl _))).mono ?_
  rcases hpf : parseF t.data.toList with _ | ⟨b, h, k⟩
  · rintro e W14 ⟨rfl, hb14⟩
    have HB14 := Lib.hid (bl_al (o := addrBox false 0 0) (HB13.out.trans (hb14.mono HB13.out.size)))
    unfold addrBox at HB14
    simp only [looseA, looseE]
    clear hpa hlo htx hlk hb14 hpf
    go_wp2_with fail
    generalize World.alloc W14 _ = W15 at *
    refine (ready2 W15 (HV.out.below HB14.out (Nat.le_refl _)).mx).mono ?_
    rintro e W16 ⟨rfl, hb16⟩
    have HF := Lib.hid (HB14.out.trans (hb16.mono HB14.out.size))
    clear hb16
    go_wp2_with fail
    go_ret
    exact ⟨rfl, HF.out⟩
  · have hT := htx _ hpf
    have hL := hlk _ hpf
    have hok2 := looseF_ok hL
    rw [hL] at hlo
    simp only at hT
    have htt := fun W (VW : NmVars W) => text_any b h k hok2 W VW
    rw [hT] at htt
    rintro e W14 ⟨rfl, hb14⟩
    have HB14 := Lib.hid (bl_al (o := addrBox b h k) (HB13.out.trans (hb14.mono HB13.out.size)))
    have HC14 := Lib.hid (heap_alloc_new W14 (addrBox b h k))
    unfold addrBox at HB14 HC14
    simp only [looseA, looseE] at hlo ⊢
    clear hpa htx hlk hb14 hpf hT hL
    obtain ⟨x0, x1, x2', -⟩ := res3 HC14.out
    go_wp2_with fail
    generalize World.alloc W14 _ = W15 at *
    generalize W14.heap.size = d1 at *
    refine (htt W15 (HV.out.below HB14.out (Nat.le_refl _))).mono ?_
    rintro e W16 ⟨rfl, hb16⟩
    have HB16 := Lib.hid (HB14.out.trans (hb16.mono HB14.out.size))
    have HC16 := Lib.hid ((hb16.block _ (lt_of_block HC14.out)).trans HC14.out)
    clear hb16 HB14 HC14 x0 x1 x2' htt
    go_wp2_with fail
    refine (hlo W16 (HV.out.below HB16.out (Nat.le_refl _))).mono ?_
    rintro e W17 ⟨rfl, hb17⟩
    have HB17 := Lib.hid (bl_al (o := addrBox b h k) (HB16.out.trans (hb17.mono HB16.out.size)))
    have HC17 := Lib.hid (old1 (a := addrBox b h k) ((hb17.block _ (lt_of_block HC16.out)).trans HC16.out))
    have HD17 := Lib.hid (heap_alloc_new W17 (addrBox b h k))
    unfold addrBox at HB17 HC17 HD17
    obtain ⟨x0, x1, x2', -⟩ := res3 HC17.out
    obtain ⟨y0, y1, y2, -⟩ := res3 HD17.out
    have hq1 := fun W => (run_eq_addr 9998 b b h h k k W).trans (show _ = Result.ok true W from by simp)
    clear hb17 hlo HB16 HC16
    go_upto_region 15 with (fail)
    generalize World.alloc W17 _ = W18 at *
    generalize W17.heap.size = d2 at *
    have hrd := ready2 W18 (HV.out.below HB17.out (Nat.le_refl _)).mx
    go_wp2_with fail
    refine hrd.mono ?_
    rintro e W19 ⟨rfl, hb19⟩
    have HF := Lib.hid (HB17.out.trans (hb19.mono HB17.out.size))
    clear hb19
    go_wp2_with fail
    go_ret
    exact ⟨rfl, HF.out⟩
/-- What the row gives of the variables. -/
theorem nmVars_of_row {W : World} (hL : laidMetH Tryz.prog Rows.addrsComeBackRow.laid W) (hS : W.ShapedOpen Tryz.prog) : NmVars W := by
  rw [MakeChecks.laidMetH_plain _ _ _ (by kernel_rfl)] at hL
  have h0 : laidMet Tryz.prog (("math/bits.deBruijn32tab", Rows.laid_math_bits_deBruijn32tab) :: ("math/bits.deBruijn64tab", Rows.laid_math_bits_deBruijn64tab) :: ("internal/strconv.uint64pow10", Rows.laid_internal_strconv_uint64pow10) :: Rows.addrsComeBackRow.laid.drop 3) W := hL
  have h1 := h0.tail
  have h2 := h1.tail
  have t1 : Lib.TabIs Tryz.prog W "math/bits.deBruijn64tab" .u8 [0, 1, 56, 2, 57, 49, 28, 3, 61, 58, 42, 50, 38, 29, 17, 4, 62, 47, 59, 36, 45, 43, 51, 22, 53, 39, 33, 30, 24, 18, 12, 5, 63, 55, 48, 27, 60, 41, 37, 16, 46, 35, 44, 21, 52, 32, 23, 11, 54, 26, 40, 15, 34, 20, 31, 10, 25, 14, 19, 9, 13, 8, 7, 6] :=
    Lib.tabIs_of_head (g := 7) (by kernel_rfl) (by kernel_rfl) Tryz.underlying330 Tryz.underlying5 (by kernel_rfl) (by kernel_rfl) h1
  have t2 : Lib.TabIs Tryz.prog W "internal/strconv.uint64pow10" .u64 Lib.pow10Tab :=
    Lib.tabIs_of_head (g := 1) (by kernel_rfl) (by kernel_rfl) Tryz.underlying264 Tryz.underlying26 (by kernel_rfl) (by kernel_rfl) h2
  refine ⟨mx_of_row trivial hS, ?_, t2⟩
  exact t1.cell (by kernel_rfl) 15 (by decide)
end Go.Proofs.YtcicednopgpjfaaGreatDoor
