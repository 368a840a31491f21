/- TablesStay: the walk. -/
import Derived.Test.YtpbcbgoenoolfaaGreatDoorTbH
import Derived.Test.YtpbcbgoenoolfaaGreatDoorAdS
import Derived.Test.YtpbcbgoenoolfaaGreatDoorRyF
namespace Go.Proofs.YtpbcbgoenoolfaaGreatDoor
open Go.RowKit Go.Hw
/-- What stands: the address, the two tables. -/
structure TsI (w : World) (nb : Nat) (a : Ad) (A1 A2 : Option Addr) (T U : List En) (W : World) : Prop where
  below : Below w.heap.size w W
  blk : W.heap[nb]? = some (.cells #[.bool a.six, .int .u64 a.hi, .int .u64 a.lo] 30 (0, 0))
  t : enAt W A1 T
  u : enAt W A2 U
theorem TsI.call {w W W' : World} {nb : Nat} {a : Ad} {A1 A2 : Option Addr} {T U : List En} (h : TsI w nb a A1 A2 T U W) (hb : Below W.heap.size W W') : TsI w nb a A1 A2 T U W' :=
  ⟨h.below.trans (hb.mono h.below.size), (hb.block _ (lt_of_block h.blk)).trans h.blk, h.t.below hb, h.u.below hb⟩
/-- Lookup, named. -/
theorem look_named (A : Option Addr) (cap : Nat) (L : List En) (x : Ad) (w : World) (hL : enAt w A L) (ht : TblOk L) (hf : AddrFine x.six x.hi x.lo) (t : ByteArray) (e1 : Bool) (h1 : atE L x = t) (h2 : t.toList.isEmpty = e1) :
    Calls Tryz.prog 8 #[.slice A L.length cap, .agg #[.bool x.six, .int .u64 x.hi, .int .u64 x.lo]] w fun e w' => e = .returned (.tuple #[.string t, .bool (!e1), .int .i64 0]) ∧ Below w.heap.size w w' := by
  rw [← h2, ← h1]
  exact lookupApi_right A cap L x.six x.hi x.lo w hL ht hf
theorem en_slice {w : World} {base : Nat} {v : Value} {L : List En} (h : enOwn w base v L) : ∃ A cap, v = .slice A L.length cap ∧ enAt w A L := rw_at enC_len h
set_option maxRecDepth 100000 in
set_option maxHeartbeats 4000000 in
theorem tablesStay_any (A : Option Addr) (cap : Nat) (l : List Int) (w : World) (hA : ∀ i, i < l.length → ∃ g off, A = some ⟨g, off, none⟩ ∧ g < w.heap.size ∧ w.cell? ⟨g, off + i, none⟩ = some (.int .i64 (l.getD i 0)))
    (hfits : ∀ i, -9223372036854775808 ≤ l.getD i 0 ∧ l.getD i 0 ≤ 9223372036854775807) (hlong : l.length ≤ 17592186044416) (hmx : MxW w) :
    Calls Tryz.prog 3 #[.slice A l.length cap] w fun e w' => e = .returned (.bool true) ∧ Below w.heap.size w w' := by
  have hs0 : Str (w.alloc (.cells #[.slice A l.length cap, .int .i64 0] 25)) w.heap.size A cap l 0 := {
    cell := heap_alloc_new w _
    ints := fun i hi => by
      obtain ⟨g, off, h1, h2, h3⟩ := hA i hi
      exact ⟨g, off, h1, h2, by rw [World.cell?_alloc_lt _ _ _ h2]; exact h3⟩
    fits := hfits
    long := hlong
    low := by omega
    high := by omega }
  have hB0 : Below w.heap.size w (w.alloc (.cells #[.slice A l.length cap, .int .i64 0] 25)) := (Below.refl _ _).alloc (Nat.le_refl _) _
  have HS := Lib.hid hs0
  have HB := Lib.hid hB0
  have HM := Lib.hid hmx
  clear hs0 hB0 hA hfits hmx
  go_enter Tryz.func3, Tryz.ntmps3
  go_upto_region 2 with (fail)
  generalize hW : World.alloc _ _ = W1 at HS HB ⊢
  clear hW
  have hb0 := HS.out.lt
  go_wp2_with fail
  refine (rightTable_any w.heap.size A cap l 0 W1 HS.out (by omega)).mono ?_
  rintro e W2 ⟨A1, c1, T, x1, rfl, ht1, hba1, hok1, hx1, hs1, hg1⟩
  have HT1 := Lib.hid ht1
  have HS1 := Lib.hid hs1
  have HG1 := Lib.hid hg1
  have HK1 := Lib.hid hok1.1
  have hxb1 : x1 ≤ 100 := by omega
  have HNE1 : Hid (∀ a, A1 = some a → some a.block ≠ some w.heap.size) := Lib.hid (fun a ha e => by injection e with e; have := hba1 a ha; omega)
  have hl1 := hok1.2
  have hz1 := hg1.size
  clear ht1 hs1 hg1 hok1 hx1 hba1
  go_wp2_with fail
  refine (rightTable_any w.heap.size A cap l x1 W2 HS1.out (by omega)).mono ?_
  rintro e W3 ⟨A2, c2, U, x2, rfl, ht2, hba2, hok2, hx2, hs2, hg2⟩
  have HT2 := Lib.hid ht2
  have HS2 := Lib.hid hs2
  have HK2 := Lib.hid hok2.1
  have HT12 := Lib.hid (HT1.out.grown hg2 HNE1.out)
  have HG2 := Lib.hid (HG1.out.andThen hg2 (fun _ h => .inr h))
  have hxb2 : x2 ≤ 200 := by omega
  have HNE2 : Hid (∀ a, A2 = some a → some a.block ≠ some w.heap.size) := Lib.hid (fun a ha e => by injection e with e; have := hba2 a ha; omega)
  have hl2 := hok2.2
  clear ht2 hs2 hg2 hok2 hx2 hba2
  go_wp2_with fail
  refine (addr_det w.heap.size A cap l x2 W3 HS2.out (by omega)).mono ?_
  rintro e W4 ⟨six, hi, lo, x3, -, rfl, hfa, hx3, hs3, hg3⟩
  obtain ⟨a, ha⟩ : ∃ a : Ad, a = ⟨six, hi, lo⟩ := ⟨_, rfl⟩
  have e1 : six = a.six := by rw [ha]
  have e2 : hi = a.hi := by rw [ha]
  have e3 : lo = a.lo := by rw [ha]
  subst e1 e2 e3
  clear ha
  have HFA := Lib.hid hfa
  have HB4 : Hid (Below w.heap.size w W4) := Lib.hid (HB.out.grown (HG2.out.andThen hg3 (fun _ h => .inr h)) HB.out.size (fun j e => by injection e with e; omega))
  have HI : Hid (TsI w W4.heap.size a A1 A2 T U (W4.alloc (.cells #[.bool a.six, .int .u64 a.hi, .int .u64 a.lo] 30 (0, 0)))) := Lib.hid ⟨HB4.out.alloc HB4.out.size _, heap_alloc_new _ _, (HT12.out.grown hg3 HNE1.out).below ((Below.refl _ _).alloc (Nat.le_refl _) _), (HT2.out.grown hg3 HNE2.out).below ((Below.refl _ _).alloc (Nat.le_refl _) _)⟩
  clear hfa hx3 hs3 hg3 HB4 HT12 HT1 HT2 HG1 HG2 HS HS1 HS2 HB
  go_upto_region 3 with (fail)
  generalize World.alloc W4 _ = V0 at HI ⊢
  generalize W4.heap.size = nb at HI ⊢
  -- the tables by name
  have HSQ := Lib.hid (squE_ok HK1.out)
  have HAG := Lib.hid (squE_again HK1.out)
  obtain ⟨X, hX⟩ : ∃ X, squE T = X := ⟨_, rfl⟩
  have HXL : Hid (X.length ≤ 7) := Lib.hid (by
    have : X.length ≤ T.length := by rw [← hX]; exact List.length_filter_le _ _
    omega)
  have HXT : Hid (∀ y : Ad, AddrFine y.six y.hi y.lo → (atE T y).toList = (atE X y).toList) := Lib.hid (fun y hy => by rw [← hX]; exact (squE_look HK1.out y hy).symm)
  have hsq1 := squeeze_right A1 c1 T V0 HI.out.t HK1.out
  rw [hX] at HSQ HAG hsq1
  clear hX
  go_wp2_with fail
  refine hsq1.mono ?_
  rintro e V1 ⟨v1, rfl, ho1, hb1⟩
  obtain ⟨B1, d1, rfl, hx1⟩ := en_slice ho1
  have HX1 := Lib.hid hx1
  have HI1 := Lib.hid (HI.out.call hb1)
  have hsq2 := squeeze_right B1 d1 X V1 HX1.out HSQ.out
  rw [HAG.out] at hsq2
  clear hx1 ho1 hb1 HI hsq1
  go_wp2_with fail
  refine hsq2.mono ?_
  rintro e V2 ⟨v2, rfl, ho2, hb2⟩
  obtain ⟨B2, d2, rfl, hx2⟩ := en_slice ho2
  have HY2 := Lib.hid hx2
  have HX2 := Lib.hid (HX1.out.below hb2)
  have HI2 := Lib.hid (HI1.out.call hb2)
  clear hx2 ho2 hb2 HX1 HI1 hsq2
  go_wp2_with fail
  refine (differ_right A1 B1 c1 d1 T X V2 HI2.out.t HX2.out HK1.out HSQ.out).mono ?_
  rintro e V3 ⟨r, is, rfl, hb3, hyes, -⟩
  have his : is = false := by
    cases is
    · rfl
    · obtain ⟨h1, h2⟩ := hyes rfl
      exact absurd (HXT.out r h1) h2
  subst his
  have HBr := (Below.refl V3.heap.size V3).alloc (Nat.le_refl _) (.cells #[.bool r.six, .int .u64 r.hi, .int .u64 r.lo] 30 (0, 0))
  have HY3 := Lib.hid ((HY2.out.below hb3).below HBr)
  have HX3 := Lib.hid ((HX2.out.below hb3).below HBr)
  have HI3 := Lib.hid ((HI2.out.call hb3).call HBr)
  clear hb3 hyes HY2 HX2 HI2 HBr
  go_upto_region 6 with (fail)
  generalize World.alloc V3 _ = V4 at HY3 HX3 HI3 ⊢
  -- what they say at the address
  obtain ⟨t1, ht1⟩ : ∃ t, atE T a = t := ⟨_, rfl⟩
  obtain ⟨t2, ht2⟩ : ∃ t, atE X a = t := ⟨_, rfl⟩
  obtain ⟨q, hq1⟩ : ∃ q, t1.toList.isEmpty = q := ⟨_, rfl⟩
  have h12 := HXT.out a HFA.out
  rw [ht1, ht2] at h12
  have hq2 : t2.toList.isEmpty = q := by rw [← h12]; exact hq1
  have hk1 := fun W (hW : TsI w nb a A1 A2 T U W) => look_named A1 c1 T a W hW.t HK1.out HFA.out t1 q ht1 hq1
  have hk2 := fun W (hW : enAt W B1 X) => look_named B1 d1 X a W hW HSQ.out HFA.out t2 q ht2 hq2
  have H12 : Hid ((t1.toList == t2.toList) = true) := Lib.hid (by simp [h12])
  have HTA := Lib.hid ht1
  have HQA := Lib.hid hq1
  obtain ⟨s0, s1, s2, -⟩ := res3 HI3.out.blk
  clear h12 ht1 ht2 hq1 hq2
  go_wp2_with fail
  refine (hk1 V4 HI3.out).mono ?_
  rintro e V5 ⟨rfl, hb5⟩
  have HY5 := Lib.hid (HY3.out.below hb5)
  have HX5 := Lib.hid (HX3.out.below hb5)
  have HI5 := Lib.hid (HI3.out.call hb5)
  clear hb5 HY3 HX3 HI3 s0 s1 s2
  obtain ⟨s0, s1, s2, -⟩ := res3 HI5.out.blk
  go_wp2_with fail
  refine (hk2 V5 HX5.out).mono ?_
  rintro e V6 ⟨rfl, hb6⟩
  have HY6 := Lib.hid (HY5.out.below hb6)
  have HX6 := Lib.hid (HX5.out.below hb6)
  have HI6 := Lib.hid (HI5.out.call hb6)
  clear hb6 HY5 HX5 HI5 s0 s1 s2 hk1 hk2
  have h12 := H12.out
  have hqq : ((!q) != (!q)) = false := by simp
  go_wp2_with fail
  refine (en_equal B1 B2 d1 d2 X V6 HX6.out HY6.out (by have := HXL.out; omega)).mono ?_
  rintro e V7 ⟨rfl, hb7⟩
  have HI7 := Lib.hid (HI6.out.call hb7)
  clear hb7 HY6 HX6 HI6
  go_wp2_with fail
  refine (differ_right A1 A2 c1 c2 T U V7 HI7.out.t HI7.out.u HK1.out HK2.out).mono ?_
  rintro e V8 ⟨p, is, rfl, hb8, hyes, hno⟩
  have HNW := Lib.hid (heap_alloc_new V8 (.cells #[.bool p.six, .int .u64 p.hi, .int .u64 p.lo] 30 (0, 0)))
  have HI8 := Lib.hid ((HI7.out.call hb8).call ((Below.refl V8.heap.size V8).alloc (Nat.le_refl _) (.cells #[.bool p.six, .int .u64 p.hi, .int .u64 p.lo] 30 (0, 0))))
  clear hb8 HI7 h12 hqq H12
  cases is
  · clear hyes
    have HEQ := Lib.hid (edges_all HK1.out HK2.out (hno rfl) a HFA.out)
    clear hno HNW
    obtain ⟨t3, ht3⟩ : ∃ t, atE U a = t := ⟨_, rfl⟩
    have h13 := HEQ.out
    rw [HTA.out, ht3] at h13
    have hq3 : t3.toList.isEmpty = q := by rw [← h13]; exact HQA.out
    have hk1 := fun W (hW : TsI w nb a A1 A2 T U W) => look_named A1 c1 T a W hW.t HK1.out HFA.out t1 q HTA.out HQA.out
    have hk3 := fun W (hW : TsI w nb a A1 A2 T U W) => look_named A2 c2 U a W hW.u HK2.out HFA.out t3 q ht3 hq3
    have H13 : Hid ((t1.toList == t3.toList) = true) := Lib.hid (by simp [h13])
    clear h13 ht3 hq3 HEQ
    go_upto_region 15 with (fail)
    generalize World.alloc V8 _ = V9 at HI8 ⊢
    obtain ⟨s0, s1, s2, -⟩ := res3 HI8.out.blk
    go_wp2_with fail
    refine (hk1 V9 HI8.out).mono ?_
    rintro e Va ⟨rfl, hba⟩
    have HIa := Lib.hid (HI8.out.call hba)
    clear hba HI8 s0 s1 s2
    obtain ⟨s0, s1, s2, -⟩ := res3 HIa.out.blk
    go_wp2_with fail
    refine (hk3 Va HIa.out).mono ?_
    rintro e Vb ⟨rfl, hbb⟩
    have HIb := Lib.hid (HIa.out.call hbb)
    clear hbb HIa s0 s1 s2 hk1 hk3
    have h13 := H13.out
    have hqq : ((!q) == (!q)) = true := by simp
    go_wp2_with fail
    refine (ready2 Vb (HM.out.below HIb.out.below)).mono ?_
    rintro e Vc ⟨rfl, hbc⟩
    have HIc := Lib.hid (HIb.out.call hbc)
    clear hbc HIb
    go_wp2_with fail
    go_ret
    exact ⟨rfl, HIc.out.below⟩
  · clear hno
    obtain ⟨hpf, hpn⟩ := hyes rfl
    obtain ⟨t3, ht3⟩ : ∃ t, atE T p = t := ⟨_, rfl⟩
    obtain ⟨t4, ht4⟩ : ∃ t, atE U p = t := ⟨_, rfl⟩
    rw [ht3, ht4] at hpn
    obtain ⟨q3, hq3⟩ : ∃ q, t3.toList.isEmpty = q := ⟨_, rfl⟩
    obtain ⟨q4, hq4⟩ : ∃ q, t4.toList.isEmpty = q := ⟨_, rfl⟩
    have hk3 := fun W (hW : TsI w nb a A1 A2 T U W) => look_named A1 c1 T p W hW.t HK1.out hpf t3 q3 ht3 hq3
    have hk4 := fun W (hW : TsI w nb a A1 A2 T U W) => look_named A2 c2 U p W hW.u HK2.out hpf t4 q4 ht4 hq4
    have H34 : Hid ((t3.toList == t4.toList) = false) := Lib.hid (by simp [hpn])
    clear hyes hpf hpn ht3 ht4 hq3 hq4
    go_upto_region 12 with (fail)
    generalize World.alloc V8 _ = V9 at HI8 HNW ⊢
    generalize V8.heap.size = pb at HNW ⊢
    obtain ⟨s0, s1, s2, -⟩ := res3 HNW.out
    go_wp2_with fail
    refine (hk3 V9 HI8.out).mono ?_
    rintro e Va ⟨rfl, hba⟩
    have HIa := Lib.hid (HI8.out.call hba)
    have HNa := Lib.hid ((hba.block _ (lt_of_block HNW.out)).trans HNW.out)
    clear hba HI8 HNW s0 s1 s2
    obtain ⟨s0, s1, s2, -⟩ := res3 HNa.out
    go_wp2_with fail
    refine (hk4 Va HIa.out).mono ?_
    rintro e Vb ⟨rfl, hbb⟩
    have HIb := Lib.hid (HIa.out.call hbb)
    clear hbb HIa HNa s0 s1 s2 hk3 hk4
    have h34 := H34.out
    go_wp2_with fail
    refine (ready2 Vb (HM.out.below HIb.out.below)).mono ?_
    rintro e Vc ⟨rfl, hbc⟩
    have HIc := Lib.hid (HIb.out.call hbc)
    clear hbc HIb
    go_wp2_with fail
    go_ret
    exact ⟨rfl, HIc.out.below⟩
end Go.Proofs.YtpbcbgoenoolfaaGreatDoor
