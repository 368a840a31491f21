/- LessIsKept: thinned and hidden reports keep all packets and bytes, and are right; done again nothing changes. -/
import Derived.Test.YthjfnlbekbhmgaaGreatDoorRpS
import Derived.Test.YthjfnlbekbhmgaaGreatDoorRpP
import Derived.Test.YthjfnlbekbhmgaaGreatDoorRyF
import Derived.ChangeKeysEq
namespace Go.Proofs.YthjfnlbekbhmgaaGreatDoor
open Go.RowKit Go.Hw

/-- What is made of reports by one change of each and laid together. -/
structure LkP (f : Rp → Rp) (L M : List Rp) : Prop where
  len : M.length ≤ 20
  t : ∀ r ∈ M, RpT r
  g : ∀ r ∈ M, RpG r
  ck : ckR M = 0
  again : togL (M.map f) = M
  sum : L.any hugeR = false → sumBy Rp.pk M = sumBy Rp.pk L ∧ sumBy Rp.by_ M = sumBy Rp.by_ L
theorem lk_sum {L : List Rp} (hl : L.length ≤ 20) (hu : L.any hugeR = false) : sumBy Rp.pk L ≤ 1000000000000 ∧ sumBy Rp.by_ L ≤ 1000000000000 := by
  have h : ∀ r ∈ L, r.pk ≤ 1000000000 ∧ r.by_ ≤ 1000000000 := fun r hr => by
    have := List.any_eq_false.1 hu r hr
    simp [hugeR] at this
    omega
  have h1 := sumBy_le (k := Rp.pk) (fun r hr => (h r hr).1)
  have h2 := sumBy_le (k := Rp.by_) (fun r hr => (h r hr).2)
  omega
theorem lk_plain {f : Rp → Rp} (h1 : ∀ r, f (f r) = f r) (h2 : ∀ o r, f o = o → f (addR o r) = addR o r) (hp : ∀ r, (f r).pk = r.pk) (hb : ∀ r, (f r).by_ = r.by_) {L : List Rp} (hG : ∀ r ∈ L, RpG r) (hT : ∀ r ∈ L, RpT r) (hl : L.length ≤ 20)
    (fg : ∀ r, RpG r → RpT r → RpG (f r)) (ft : ∀ r, RpT r → RpT (f r)) : LkP f L (togL (L.map f)) := by
  have hg' : ∀ r ∈ L.map f, RpG r := fun r hr => by obtain ⟨y, hy, rfl⟩ := List.mem_map.1 hr; exact fg y (hG y hy) (hT y hy)
  have ht' : ∀ r ∈ L.map f, RpT r := fun r hr => by obtain ⟨y, hy, rfl⟩ := List.mem_map.1 hr; exact ft y (hT y hy)
  have hck := tog_ck hg'
  refine ⟨?_, tog_t ht', (ckR_good.1 hck).1, hck, tog_again h1 h2 L, fun hu => ?_⟩
  · have := togL_len (L.map f)
    simp at this
    omega
  · have := lk_sum hl hu
    exact tog_sum hp hb (fun r hr => ⟨(hG r hr).n.1.1, (hG r hr).n.2.1⟩) this.1 this.2
theorem thin_keeps (d : Int) (r : Rp) : (thinR d r).pk = r.pk ∧ (thinR d r).by_ = r.by_ := by
  unfold thinR
  split <;> exact ⟨rfl, rfl⟩
theorem lk_thin (d : Int) {L : List Rp} (hG : ∀ r ∈ L, RpG r) (hT : ∀ r ∈ L, RpT r) (hl : L.length ≤ 20) : LkP (thinR d) L (togL (L.map (thinR d))) :=
  lk_plain (thinR_again d) (thinR_add d) (fun r => (thin_keeps d r).1) (fun r => (thin_keeps d r).2) hG hT hl (fun _ h _ => thinR_g h) (fun _ h => thinR_t h)
theorem lk_hide (b4 b6 : Int) {L : List Rp} (hG : ∀ r ∈ L, RpG r) (hT : ∀ r ∈ L, RpT r) (hl : L.length ≤ 20) : LkP (hideR b4 b6) L (togL (L.map (hideR b4 b6))) :=
  lk_plain (hideR_again b4 b6) (hideR_add b4 b6) (fun _ => rfl) (fun _ => rfl) hG hT hl (fun _ h t => hideR_g h t) (fun _ h => hideR_t h)
theorem run_eq_two (p q : Int) (w : World) : (Op.equalIn 10000 32 (.agg #[.int .i64 p, .int .i64 q]) (.agg #[.int .i64 p, .int .i64 q])).run Tryz.prog w = .ok true w := by
  have u3 := Tryz.underlying3
  have hu : Tryz.prog.underlying 32 = some (.array 2 3) := by kernel_rfl
  obtain ⟨i0, hi, hz0, hz1, hz2⟩ := info_parts Tryz.infoIntW
  have hc : Tryz.prog.cellsOf 3 = 1 := by kernel_rfl
  rw [show (10000 : Nat) = 9999 + 1 from rfl, run_equalIn_array w 9999 _ _ hu hi, hc, show List.range 2 = [0, 1] from rfl, show (9999 : Nat) = 9998 + 1 from rfl]
  have he : Tryz.prog.plainKey 3 = true := by kernel_rfl
  have step : ∀ (xs ys : Array Value) (j : Nat) (js : List Nat) (x y : Int), xs[j]? = some (.int .i64 x) → ys[j]? = some (.int .i64 y) → (Op.eqItems (9998 + 1) 3 1 xs ys (j :: js)).run Tryz.prog w = if (x == y) = true then (Op.eqItems (9998 + 1) 3 1 xs ys js).run Tryz.prog w else .ok false w := by
    intro xs ys j js x y hx hy
    have h1 := run_part_plain w he (off := j * 1) (by rw [Nat.mul_one]; exact hx)
    have h2 := run_part_plain w he (off := j * 1) (by rw [Nat.mul_one]; exact hy)
    have h3 := run_equalIn_int w 9998 3 .i64 .i64 x y u3
    simp only [Op.eqItems, Sem.run_bind, h1, h2, h3, Result.andThen_ok]
    cases x == y <;> simp
  rw [step _ _ 0 _ p p rfl rfl, step _ _ 1 _ q q rfl rfl]
  simp [Op.eqItems]
set_option maxRecDepth 100000 in
set_option maxHeartbeats 4000000 in
theorem lessIsKept_any (A : Option Addr) (cap : Nat) (l : List Int) (w : World) (hA : ∀ i, i < l.length → ∃ g off, A = some ⟨g, off, none⟩ ∧ g < w.heap.size ∧ w.cell? ⟨g, off + i, none⟩ = some (.int .i64 (l.getD i 0)))
    (hfits : ∀ i, -9223372036854775808 ≤ l.getD i 0 ∧ l.getD i 0 ≤ 9223372036854775807) (hlong : l.length ≤ 17592186044416) (hmx : MxW w) :
    Calls Tryz.prog 3 #[.slice A l.length cap] w fun e w' => e = .returned (.bool true) ∧ Below w.heap.size w w' := by
  have hs0 : Str (w.alloc (.cells #[.slice A l.length cap, .int .i64 0] 25)) w.heap.size A cap l 0 := {
    cell := heap_alloc_new w _
    ints := fun i hi => by
      obtain ⟨g, off, h1, h2, h3⟩ := hA i hi
      exact ⟨g, off, h1, h2, by rw [World.cell?_alloc_lt _ _ _ h2]; exact h3⟩
    fits := hfits
    long := hlong
    low := by omega
    high := by omega }
  have hB0 : Below w.heap.size w (w.alloc (.cells #[.slice A l.length cap, .int .i64 0] 25)) := (Below.refl _ _).alloc (Nat.le_refl _) _
  have HS := Lib.hid hs0
  have HB := Lib.hid hB0
  have HM := Lib.hid hmx
  clear hs0 hB0 hA hfits hmx
  go_enter Tryz.func3, Tryz.ntmps3
  go_upto_region 2 with (fail)
  generalize hW : World.alloc _ _ = W1 at HS HB ⊢
  clear hW
  have D0 := DS.start HS.out
  have hb0 := HS.out.lt
  go_wp2_with fail
  refine (D0.range (by omega) 0 10 (by omega) (by omega) (by omega) (by omega)).mono ?_
  rintro e W2 ⟨⟨n, hn0, hn1, rfl⟩, D1, -⟩
  clear D0
  obtain ⟨N, rfl⟩ : ∃ N : Nat, n = N := ⟨n.toNat, by omega⟩
  have HG1 := Lib.hid D1.grown
  have hb2 : w.heap.size < W2.heap.size := D1.blt
  obtain ⟨x, hx0, hx1, hs, -⟩ := D1.to
  clear D1
  go_wp2_with fail
  refine (reports_any w.heap.size A cap l x N W2 hs (by omega) (by omega)).mono ?_
  rintro e W3 ⟨v, L, rfl, hl, ht, ho, x3, hx30, hx31, hs3, hg3⟩
  obtain ⟨g, pc, rfl, hg0, -⟩ := own_slice ho
  have HGN : Hid (g = none → L = []) := Lib.hid (fun e => List.length_eq_zero_iff.1 (hg0 e))
  have HO := Lib.hid ho
  have HNB := Lib.hid (own_ne ho hb2)
  have HG3 := Lib.hid (HG1.out.andThen hg3 (fun _ h => .inr h))
  have HT := Lib.hid ht
  have E0 := DS.start hs3
  have hx39 : x3 < 1099511600000 := by omega
  clear hs hx0 hx1 hx30 hx31 ho ht hg0 hg3 hs3
  go_wp2_with fail
  refine (E0.range (by omega) 0 3 (by omega) (by omega) (by omega) (by omega)).mono ?_
  rintro e W4 ⟨⟨d, hd0, hd3, rfl⟩, E1, hg4⟩
  clear E0
  have HAT4 := Lib.hid (rw_at' (d := noRp) rpC_len (HO.out.kept hg4 (.inr HNB.out)))
  have HB4 : Hid (Below w.heap.size w W4) := Lib.hid (HB.out.grown (HG3.out.andThen hg4 (fun _ h => .inr h)) HB.out.size (fun j e => by injection e with e; omega))
  clear E1 hg4
  go_wp2_with fail
  refine (checkR_any g pc L W4 HAT4.out (by omega) HT.out).mono ?_
  rintro e W5 ⟨rfl, hb5⟩
  have HB5 := Lib.hid (HB4.out.trans (hb5.mono HB4.out.size))
  by_cases hc : ckR L = 0
  · have HC := Lib.hid hc
    rw [hc]
    have HGD := Lib.hid (ckR_good.1 hc).1
    have HP := Lib.hid (lk_thin d HGD.out HT.out hl)
    have HQ := Lib.hid (lk_hide 24 64 HGD.out HT.out hl)
    have HAT5 := Lib.hid (HAT4.out.below hb5)
    have HTH := Lib.hid (thin_any g pc L d W5 HAT5.out HGN.out hl HT.out (fun r hr => (HGD.out r hr).n) (fun r hr => by have := (HGD.out r hr).hour; omega) (by omega) hc)
    obtain ⟨a, ha⟩ : ∃ a, togL (L.map (thinR d)) = a := ⟨_, rfl⟩
    obtain ⟨c, hcc⟩ : ∃ c, togL (L.map (hideR 24 64)) = c := ⟨_, rfl⟩
    rw [ha] at HP HTH
    rw [hcc] at HQ
    have HHI : Hid (∀ W : World, Below W5.heap.size W5 W → Calls Tryz.prog 11 #[.slice g L.length pc, .int .i64 24, .int .i64 64] W fun e w' => ∃ v, e = .returned (.tuple #[v, .int .i64 0]) ∧ rpOwn w' W.heap.size v c ∧ Below W.heap.size W w') := Lib.hid (fun W hb => hcc ▸ hide_any g pc L 24 64 W (HAT5.out.below hb) HGN.out hl HT.out (fun r hr => (HGD.out r hr).n) (by omega) (by omega) HC.out)
    have hl' := hl
    clear hc hb5 ha hcc
    go_wp2_with fail
    refine HTH.out.mono ?_
    rintro e W6 ⟨v, rfl, ho6, hb6⟩
    obtain ⟨ga, pa, rfl, hga, -⟩ := own_slice ho6
    have HA6 := Lib.hid (rw_at' (d := noRp) rpC_len ho6)
    have HGA : Hid (ga = none → a = []) := Lib.hid (fun e => List.length_eq_zero_iff.1 (hga e))
    have HB6 := Lib.hid hb6
    have HTH2 := Lib.hid (thin_any ga pa a d W6 HA6.out HGA.out HP.out.len HP.out.t (fun r hr => (HP.out.g r hr).n) (fun r hr => by have := (HP.out.g r hr).hour; omega) (by omega) HP.out.ck)
    rw [HP.out.again] at HTH2
    clear ho6 hga hb6 HTH
    go_wp2_with fail
    refine HTH2.out.mono ?_
    rintro e W7 ⟨v, rfl, ho7, hb7⟩
    obtain ⟨gb, pb, rfl, -, -⟩ := own_slice ho7
    have HA7 := Lib.hid (HA6.out.below hb7)
    have HD7 := Lib.hid (rw_at' (d := noRp) rpC_len ho7)
    have HB7 := Lib.hid (HB6.out.trans (hb7.mono HB6.out.size))
    clear ho7 hb7 HTH2
    go_wp2_with fail
    refine (HHI.out W7 HB7.out).mono ?_
    rintro e W8 ⟨v, rfl, ho8, hb8⟩
    obtain ⟨gc, pcc, rfl, hgc, -⟩ := own_slice ho8
    have HC8 := Lib.hid (rw_at' (d := noRp) rpC_len ho8)
    have HGC : Hid (gc = none → c = []) := Lib.hid (fun e => List.length_eq_zero_iff.1 (hgc e))
    have HB8 := Lib.hid (HB7.out.trans (hb8.mono HB7.out.size))
    have HA8 := Lib.hid (HA7.out.below hb8)
    have HD8 := Lib.hid (HD7.out.below hb8)
    have HHI2 := Lib.hid (hide_any gc pcc c 24 64 W8 HC8.out HGC.out HQ.out.len HQ.out.t (fun r hr => (HQ.out.g r hr).n) (by omega) (by omega) HQ.out.ck)
    rw [HQ.out.again] at HHI2
    clear ho8 hgc hb8 HHI
    go_wp2_with fail
    refine HHI2.out.mono ?_
    rintro e W9 ⟨v, rfl, ho9, hb9⟩
    obtain ⟨gd, pd, rfl, -, -⟩ := own_slice ho9
    have HB9 := Lib.hid (HB8.out.trans (hb9.mono HB8.out.size))
    have HA9 := Lib.hid (HA8.out.below hb9)
    have HD9 := Lib.hid (HD8.out.below hb9)
    have HC9 := Lib.hid (HC8.out.below hb9)
    have HE9 := Lib.hid (rw_at' (d := noRp) rpC_len ho9)
    have HL9 := Lib.hid (HAT5.out.below HB9.out)
    clear ho9 hb9 HHI2
    have HLA := Lib.hid HP.out.len
    have HLC := Lib.hid HQ.out.len
    go_wp2_with fail
    refine (checkR_any ga pa a W9 HA9.out (by have := HLA.out; omega) HP.out.t).mono ?_
    rintro e W10 ⟨rfl, hb10⟩
    rw [HP.out.ck]
    have HX10 := Lib.hid hb10
    clear hb10
    go_wp2_with fail
    refine (checkR_any gc pcc c W10 (HC9.out.below HX10.out) (by have := HLC.out; omega) HQ.out.t).mono ?_
    rintro e W11 ⟨rfl, hb11⟩
    rw [HQ.out.ck]
    have HX11 := Lib.hid (HX10.out.trans (hb11.mono HX10.out.size))
    clear hb11
    go_wp2_with fail
    refine (hugeAll_any g pc L W11 (HL9.out.below HX11.out) (by omega)).mono ?_
    rintro e W12 ⟨rfl, hb12⟩
    have HX12 := Lib.hid (HX11.out.trans (hb12.mono HX11.out.size))
    clear hb12
    have HSUM := Lib.hid (And.intro HP.out.sum HQ.out.sum)
    cases hu : L.any hugeR
    · obtain ⟨⟨sp1, sp2⟩, sq1, sq2⟩ := And.intro (HSUM.out.1 hu) (HSUM.out.2 hu)
      have HS1 := Lib.hid (And.intro sp1 sp2)
      have HS2 := Lib.hid (And.intro sq1 sq2)
      have gq : Tryz.prog.eqGuardType Tryz.prog.depth 32 = false := by kernel_rfl
      have hq := run_eq_two (sumBy Rp.pk L) (sumBy Rp.by_ L)
      clear hu sp1 sp2 sq1 sq2
      go_wp2_with fail
      refine (sum_any ga pa a W12 (HA9.out.below HX12.out) HLA.out (fun r hr => (HP.out.g r hr).n)).mono ?_
      rintro e W13 ⟨rfl, hb13⟩
      rw [HS1.out.1, HS1.out.2]
      have HX13 := Lib.hid (HX12.out.trans (hb13.mono HX12.out.size))
      clear hb13
      go_wp2_with fail
      refine (sum_any g pc L W13 (HL9.out.below HX13.out) hl (fun r hr => (HGD.out r hr).n)).mono ?_
      rintro e W14 ⟨rfl, hb14⟩
      have HX14 := Lib.hid (HX13.out.trans (hb14.mono HX13.out.size))
      clear hb14
      go_wp2_with fail
      refine (sum_any gc pcc c W14 (HC9.out.below HX14.out) HLC.out (fun r hr => (HQ.out.g r hr).n)).mono ?_
      rintro e W15 ⟨rfl, hb15⟩
      rw [HS2.out.1, HS2.out.2]
      have HX15 := Lib.hid (HX14.out.trans (hb15.mono HX14.out.size))
      clear hb15
      go_wp2_with fail
      refine (sum_any g pc L W15 (HL9.out.below HX15.out) hl (fun r hr => (HGD.out r hr).n)).mono ?_
      rintro e W16 ⟨rfl, hb16⟩
      have HX16 := Lib.hid (HX15.out.trans (hb16.mono HX15.out.size))
      clear hb16
      go_wp2_with fail
      refine (rq_equal ga gb pa pb a W16 (HA9.out.below HX16.out) (HD9.out.below HX16.out) (by have := HLA.out; omega)).mono ?_
      rintro e V1 ⟨rfl, hv1⟩
      have HV1 := Lib.hid (HX16.out.trans (hv1.mono HX16.out.size))
      clear hv1
      go_wp2_with fail
      refine (rq_equal gc gd pcc pd c V1 (HC9.out.below HV1.out) (HE9.out.below HV1.out) (by have := HLC.out; omega)).mono ?_
      rintro e V2 ⟨rfl, hv2⟩
      have HV2 := Lib.hid (HV1.out.trans (hv2.mono HV1.out.size))
      have HVB := Lib.hid (HB5.out.trans ((HB9.out.trans (HV2.out.mono HB9.out.size)).mono HB5.out.size))
      clear hv2
      go_wp2_with fail
      refine (ready2 V2 (HM.out.below HVB.out)).mono ?_
      rintro e V3 ⟨rfl, hv3⟩
      have HVF := Lib.hid (HVB.out.trans (hv3.mono HVB.out.size))
      clear hv3
      go_wp2_with fail
      go_ret
      exact ⟨rfl, HVF.out⟩
    · clear hu
      go_wp2_with fail
      refine (rq_equal ga gb pa pb a W12 (HA9.out.below HX12.out) (HD9.out.below HX12.out) (by have := HLA.out; omega)).mono ?_
      rintro e V1 ⟨rfl, hv1⟩
      have HV1 := Lib.hid (HX12.out.trans (hv1.mono HX12.out.size))
      clear hv1
      go_wp2_with fail
      refine (rq_equal gc gd pcc pd c V1 (HC9.out.below HV1.out) (HE9.out.below HV1.out) (by have := HLC.out; omega)).mono ?_
      rintro e V2 ⟨rfl, hv2⟩
      have HV2 := Lib.hid (HV1.out.trans (hv2.mono HV1.out.size))
      have HVB := Lib.hid (HB5.out.trans ((HB9.out.trans (HV2.out.mono HB9.out.size)).mono HB5.out.size))
      clear hv2
      go_wp2_with fail
      refine (ready2 V2 (HM.out.below HVB.out)).mono ?_
      rintro e V3 ⟨rfl, hv3⟩
      have HVF := Lib.hid (HVB.out.trans (hv3.mono HVB.out.size))
      clear hv3
      go_wp2_with fail
      go_ret
      exact ⟨rfl, HVF.out⟩
  · have e1 : (ckR L != 0) = true := by simpa using hc
    have e2 : (ckR L == 0) = false := by simpa using hc
    generalize ckR L = cc at e1 e2 ⊢
    have hrd := ready2 W5 (HM.out.below HB5.out)
    clear hc hb5
    go_wp2_with fail
    refine hrd.mono ?_
    rintro e w9 ⟨rfl, hb⟩
    have HBF := Lib.hid (HB5.out.trans (hb.mono HB5.out.size))
    clear hb
    go_wp2_with fail
    go_ret
    exact ⟨rfl, HBF.out⟩
end Go.Proofs.YthjfnlbekbhmgaaGreatDoor
