/- The program's test of a pool: a right pool has no fault. -/
import Derived.Test.YtajifionclpphaaGreatDoorPoD
import Derived.Test.YtajifionclpphaaGreatDoorTbK
import Derived.Test.YtajifionclpphaaGreatDoorKey2
namespace Go.Proofs.YtajifionclpphaaGreatDoor
open Go.RowKit Go.Hw
theorem cont_in {q : Pf} (hq : okP q) {a : Ad} (ha : fineA a) : contP q.six q.hi q.lo q.bits a.six a.hi a.lo = true ↔ inP q (keyA a) := by
  rw [cont_has hq ha.1 ha.2.1]
  have b2 := (bkP_al hq).2.2
  have e1 := fam_apart
  have hn := fine_num ha
  have hl := lenN_le a.six
  have hb := sixAt_big
  have pw := Nat.two_pow_pos (lenA q.six - q.bits).toNat
  show (q.six = a.six ∧ nOf q.hi q.lo ≤ nOf a.hi a.lo ∧ nOf a.hi a.lo < nOf q.hi q.lo + 2 ^ (lenA q.six - q.bits).toNat) ↔ keyN q.six (nOf q.hi q.lo) ≤ keyN a.six (nOf a.hi a.lo) ∧ keyN a.six (nOf a.hi a.lo) < keyN q.six (nOf q.hi q.lo) + 2 ^ (lenA q.six - q.bits).toNat
  have b3 : keyN q.six (nOf q.hi q.lo) + 2 ^ (lenA q.six - q.bits).toNat ≤ famE q.six := b2
  unfold keyN at *
  rcases hs : q.six with _ | _ <;> rcases ht : a.six with _ | _ <;> simp only [hs, ht, if_true, if_false, Bool.false_eq_true, true_and, false_and, reduceCtorEq] at *
  · omega
  · constructor
    · intro h; exact h.elim
    · rintro ⟨h1, h2⟩; omega
  · constructor
    · intro h; exact h.elim
    · rintro ⟨h1, h2⟩; omega
  · omega
theorem ins_cont {p q : Pf} (hp : okP p) (hq : okP q) : insP p q ↔ q.bits ≤ p.bits ∧ inP q (keyA (adP p)) := by
  constructor
  · intro h
    obtain ⟨h1, h2⟩ := ins_six hp hq h
    refine ⟨?_, h _ (inP_first p)⟩
    obtain ⟨-, a0, m, a1, -⟩ := hp
    obtain ⟨-, b0, n, b1, -⟩ := hq
    have h3 : (lenA p.six - p.bits).toNat ≤ (lenA q.six - q.bits).toNat := h2
    rw [h1] at h3 a1
    omega
  · rintro ⟨h1, h2⟩
    have hc := (cont_in hq (a := adP p) hp.1).2 h2
    have hs := ((cont_has hq hp.1.1 hp.1.2.1).1 hc).1
    have hs' : q.six = p.six := hs
    have hle : (bkP p).2 ≤ (bkP q).2 := by
      show (lenA p.six - p.bits).toNat ≤ (lenA q.six - q.bits).toNat
      rw [hs']
      omega
    have := nest (bkP_al hp).1 (bkP_al hq).1 hle (n := keyA (adP p)) (inP_first p) h2
    exact fun k hk => ⟨Nat.le_trans this.1 hk.1, Nat.lt_of_lt_of_le hk.2 this.2⟩
theorem inside2 (p q : Pf) (w : World) (hp : okP p) (hq : okP q) :
    Calls Tryz.prog 60 #[.agg #[.bool p.six, .int .u64 p.hi, .int .u64 p.lo, .int .i64 p.bits], .agg #[.bool q.six, .int .u64 q.hi, .int .u64 q.lo, .int .i64 q.bits]] w (BoolIs w (insP p q)) :=
  (inside_any p.six p.hi p.lo p.bits q.six q.hi q.lo q.bits w hp.1.1 hp.1.2.1 hq).mono fun e w' h => ⟨_, h.1, by rw [Bool.and_eq_true, decide_eq_true_eq, ins_cont hp hq, ← cont_in hq (a := adP p) hp.1]; exact Iff.rfl, h.2⟩
set_option maxRecDepth 100000 in
set_option maxHeartbeats 4000000 in
theorem meet2 (p q : Pf) (w : World) (hp : okP p) (hq : okP q) :
    Calls Tryz.prog 63 #[.agg #[.bool p.six, .int .u64 p.hi, .int .u64 p.lo, .int .i64 p.bits], .agg #[.bool q.six, .int .u64 q.hi, .int .u64 q.lo, .int .i64 q.bits]] w (BoolIs w (¬ offP p q)) := by
  have HI := Lib.hid (touch_two hp hq)
  have HP := Lib.hid hp
  have HQ := Lib.hid hq
  clear hp hq
  have b0 : ((w.alloc (.cells #[.bool p.six, .int .u64 p.hi, .int .u64 p.lo, .int .i64 p.bits] 48 (0, 0))).alloc (.cells #[.bool q.six, .int .u64 q.hi, .int .u64 q.lo, .int .i64 q.bits] 48 (0, 0))).heap[w.heap.size]? = some (.cells #[.bool p.six, .int .u64 p.hi, .int .u64 p.lo, .int .i64 p.bits] 48 (0, 0)) := (heap_alloc_old _ _ (by simp)).trans (heap_alloc_new w _)
  have bb1 : ((w.alloc (.cells #[.bool p.six, .int .u64 p.hi, .int .u64 p.lo, .int .i64 p.bits] 48 (0, 0))).alloc (.cells #[.bool q.six, .int .u64 q.hi, .int .u64 q.lo, .int .i64 q.bits] 48 (0, 0))).heap[w.heap.size + 1]? = some (.cells #[.bool q.six, .int .u64 q.hi, .int .u64 q.lo, .int .i64 q.bits] 48 (0, 0)) := by
    have := heap_alloc_new (w.alloc (.cells #[.bool p.six, .int .u64 p.hi, .int .u64 p.lo, .int .i64 p.bits] 48 (0, 0))) (.cells #[.bool q.six, .int .u64 q.hi, .int .u64 q.lo, .int .i64 q.bits] 48 (0, 0))
    simp only [Re_size] at this
    exact this
  have HB := Lib.hid (((Below.refl w.heap.size w).alloc (Nat.le_refl _) (.cells #[.bool p.six, .int .u64 p.hi, .int .u64 p.lo, .int .i64 p.bits] 48 (0, 0))).alloc (by simp) (.cells #[.bool q.six, .int .u64 q.hi, .int .u64 q.lo, .int .i64 q.bits] 48 (0, 0)))
  go_enter Tryz.func63, Tryz.ntmps63
  go_upto_region 1 with (fail)
  generalize World.alloc (World.alloc w _) _ = W at b0 bb1 HB ⊢
  generalize w.heap.size + 1 = bq at b0 bb1 ⊢
  have HB2 := Lib.hid HB.out
  have BP := Lib.hid b0
  have BQ := Lib.hid bb1
  obtain ⟨⟨p0, p1, p2, p3⟩, -⟩ := res4 b0
  obtain ⟨⟨q0, q1, q2, q3⟩, -⟩ := res4 bb1
  clear b0 bb1 HB
  go_wp2_with fail
  refine (inside2 p q W HP.out HQ.out).mono ?_
  rintro e W1 ⟨b1, rfl, h1, hb1⟩
  have H1 := Lib.hid h1
  have BP1 := Lib.hid ((hb1.block _ (lt_of_block BP.out)).trans BP.out)
  have BQ1 := Lib.hid ((hb1.block _ (lt_of_block BQ.out)).trans BQ.out)
  have HB3 := Lib.hid (HB2.out.trans (hb1.mono HB2.out.size))
  obtain ⟨⟨x0, x1, x2, x3⟩, -⟩ := res4 BP1.out
  obtain ⟨⟨y0, y1, y2, y3⟩, -⟩ := res4 BQ1.out
  clear h1 hb1
  cases b1
  · go_wp2_with fail
    refine (inside2 q p W1 HQ.out HP.out).mono ?_
    rintro e W2 ⟨b2, rfl, h2, hb2⟩
    have H2 := Lib.hid h2
    have HB4 := Lib.hid (HB3.out.trans (hb2.mono HB3.out.size))
    clear h2 hb2
    go_wp2_with fail
    go_ret
    exact ⟨b2, rfl, by rw [HI.out, H2.out]; exact ⟨.inr, fun h => h.elim (fun h3 => absurd (H1.out.2 h3) (by decide)) id⟩, HB4.out⟩
  · go_wp2_with fail
    go_ret
    exact ⟨true, rfl, by rw [HI.out]; exact ⟨fun _ => .inl (H1.out.1 (by trivial)), fun _ => rfl⟩, HB3.out⟩
theorem entersC1 : ∀ args w, (callFunc 62 args).run Tryz.prog w = .ok (.enter 62 args) w := enters_of Tryz.func62 (by kernel_rfl) rfl
theorem entersC2 : ∀ args w, (callFunc 65 args).run Tryz.prog w = .ok (.enter 65 args) w := enters_of Tryz.func65 (by kernel_rfl) rfl
set_option maxRecDepth 100000 in
set_option maxHeartbeats 1000000 in
theorem checkP1 (x : Le) (k : Pf) (nb : Nat) (w : World) (hb : w.heap[nb]? = some (.cells #[.string ⟨x.key.toArray⟩, .bool x.pf.six, .int .u64 x.pf.hi, .int .u64 x.pf.lo, .int .i64 x.pf.bits] 67 (0, 0))) (hk : okP k) (hx : okP x.pf) :
    Calls Tryz.prog 62 #[.agg #[.bool k.six, .int .u64 k.hi, .int .u64 k.lo, .int .i64 k.bits], .pointer (some ⟨nb, 0, none⟩)] w fun e w' => e = .returned (.bool (touchB k x.pf)) ∧ Below w.heap.size w w' := by
  have HK := Lib.hid hk
  have HX := Lib.hid hx
  have HB : Hid (Below w.heap.size w (w.alloc (.cells #[.bool k.six, .int .u64 k.hi, .int .u64 k.lo, .int .i64 k.bits] 48 (0, 0)))) := Lib.hid ((Below.refl _ _).alloc (Nat.le_refl _) _)
  have b1 := heap_alloc_new w (.cells #[.bool k.six, .int .u64 k.hi, .int .u64 k.lo, .int .i64 k.bits] 48 (0, 0))
  have b2 := (Below.heap_alloc w (.cells #[.bool k.six, .int .u64 k.hi, .int .u64 k.lo, .int .i64 k.bits] 48 (0, 0)) _ (lt_of_block hb)).trans hb
  obtain ⟨⟨y0, y1, y2, y3, y4⟩, -⟩ := res5 b2
  obtain ⟨⟨k0, k1, k2, k3⟩, -⟩ := res4 b1
  clear hk hx hb b1 b2
  go_enter Tryz.func62, Tryz.ntmps62
  go_upto_region 1 with (fail)
  generalize World.alloc w _ = W at y0 y1 y2 y3 y4 k0 k1 k2 k3 HB ⊢
  go_wp2_with fail
  refine (meet2 k x.pf W HK.out HX.out).mono ?_
  rintro e w1 ⟨b, rfl, h1, hb1⟩
  have HE : Hid (b = touchB k x.pf) := Lib.hid (bool_same h1 (touchB_iff k x.pf))
  have HB1 := Lib.hid (HB.out.trans (hb1.mono HB.out.size))
  clear h1 hb1
  go_wp2_with fail
  go_ret
  exact ⟨by rw [← HE.out]; rfl, HB1.out⟩
set_option maxRecDepth 100000 in
set_option maxHeartbeats 1000000 in
theorem checkP2 (x o : Le) (nb : Nat) (w : World) (hb : w.heap[nb]? = some (.cells #[.string ⟨x.key.toArray⟩, .bool x.pf.six, .int .u64 x.pf.hi, .int .u64 x.pf.lo, .int .i64 x.pf.bits] 67 (0, 0))) (hk : okP o.pf) (hx : okP x.pf) :
    Calls Tryz.prog 65 #[.agg #[.string ⟨o.key.toArray⟩, .bool o.pf.six, .int .u64 o.pf.hi, .int .u64 o.pf.lo, .int .i64 o.pf.bits], .pointer (some ⟨nb, 0, none⟩)] w fun e w' => e = .returned (.bool (touchB o.pf x.pf)) ∧ Below w.heap.size w w' := by
  have HK := Lib.hid hk
  have HX := Lib.hid hx
  have HB : Hid (Below w.heap.size w (w.alloc (.cells #[.string ⟨o.key.toArray⟩, .bool o.pf.six, .int .u64 o.pf.hi, .int .u64 o.pf.lo, .int .i64 o.pf.bits] 67 (0, 0)))) := Lib.hid ((Below.refl _ _).alloc (Nat.le_refl _) _)
  have b1 := heap_alloc_new w (.cells #[.string ⟨o.key.toArray⟩, .bool o.pf.six, .int .u64 o.pf.hi, .int .u64 o.pf.lo, .int .i64 o.pf.bits] 67 (0, 0))
  have b2 := (Below.heap_alloc w (.cells #[.string ⟨o.key.toArray⟩, .bool o.pf.six, .int .u64 o.pf.hi, .int .u64 o.pf.lo, .int .i64 o.pf.bits] 67 (0, 0)) _ (lt_of_block hb)).trans hb
  obtain ⟨⟨y0, y1, y2, y3, y4⟩, -⟩ := res5 b2
  obtain ⟨⟨k0, k1, k2, k3, k4⟩, -⟩ := res5 b1
  clear hk hx hb b1 b2
  go_enter Tryz.func65, Tryz.ntmps65
  go_upto_region 1 with (fail)
  generalize World.alloc w _ = W at y0 y1 y2 y3 y4 k0 k1 k2 k3 k4 HB ⊢
  go_wp2_with fail
  refine (meet2 o.pf x.pf W HK.out HX.out).mono ?_
  rintro e w1 ⟨b, rfl, h1, hb1⟩
  have HE : Hid (b = touchB o.pf x.pf) := Lib.hid (bool_same h1 (touchB_iff o.pf x.pf))
  have HB1 := Lib.hid (HB.out.trans (hb1.mono HB.out.size))
  clear h1 hb1
  go_wp2_with fail
  go_ret
  exact ⟨by rw [← HE.out]; rfl, HB1.out⟩
set_option maxRecDepth 100000 in
set_option maxHeartbeats 8000000 in
theorem leaseFault0 (p : Pf) (L : List Le) (K : Value) (A : Option Addr) (cl i : Nat) (w : World) (hL : leAt w A L) (hp : okP p) (hl : ∀ x ∈ L, isKey ⟨x.key.toArray⟩ = true ∧ x.key.length ≤ 40 ∧ okP x.pf ∧ insP x.pf p ∧ x.pf.bits ≤ p.bits + 20) (hord : L.Pairwise (fun x y => x.key < y.key)) (hi : i < L.length) (n2 : L.length ≤ 200) :
    Calls Tryz.prog 61 #[plV p K (.slice A L.length cl), .int .i64 i] w fun e w' => e = .returned (.int .i64 0) ∧ Below w.heap.size w w' := by
  obtain ⟨g5, off, hA, hgB, hcc⟩ := hL i hi
  obtain ⟨c0, c1, c2, c3, c4⟩ := le_cells hcc
  have HX := Lib.hid (hl (L.getD i noLe) (rw_mem hi))
  have HLS : Hid (∀ j, j < i → (L.getD j noLe).key < (L.getD i noLe).key) := Lib.hid fun j hj => by
    rw [List.getD_eq_getElem?_getD, List.getD_eq_getElem?_getD, List.getElem?_eq_getElem (by omega), List.getElem?_eq_getElem hi]
    exact List.pairwise_iff_getElem.1 hord j i (by omega) hi hj
  generalize L.getD i noLe = x at *
  have HP := Lib.hid hp
  have hpb : 0 ≤ p.bits ∧ p.bits ≤ 128 := by
    obtain ⟨-, h0, m, hm, hm2, -⟩ := hp
    have : lenA p.six ≤ 128 := by unfold lenA; split <;> omega
    omega
  have b0 := heap_alloc_new w (plBox p K (.slice A L.length cl))
  have HB : Hid (Below w.heap.size w (w.alloc (plBox p K (.slice A L.length cl)))) := Lib.hid ((Below.refl _ _).alloc (Nat.le_refl _) _)
  have HL0 := Lib.hid (hL.below HB.out)
  have hcc0 := hcc.keep fun q hq => HB.out.cell (by rw [hq]; exact hgB)
  obtain ⟨c0, c1, c2, c3, c4⟩ := le_cells hcc0
  clear hcc hcc0 hp hl hord hL
  subst hA
  unfold plV
  unfold plBox at b0 HB c0 c1 c2 c3 c4 HL0
  go_enter Tryz.func61, Tryz.ntmps61
  go_upto_region 1 with (fail)
  generalize World.alloc w _ = W at b0 HB c0 c1 c2 c3 c4 HL0 ⊢
  have BX := Lib.hid b0
  obtain ⟨⟨x0, x1, x2, x3, x4, x5⟩, -⟩ := res6r b0
  have hiI : decide ((i : Int) < (L.length : Int)) = true := by simp; omega
  clear b0
  go_upto_region 2 with (fail)
  have BN := Lib.hid (heap_alloc_new W (.cells #[.string ⟨x.key.toArray⟩, .bool x.pf.six, .int .u64 x.pf.hi, .int .u64 x.pf.lo, .int .i64 x.pf.bits] 67 (0, 0)))
  have BY := Lib.hid ((Below.heap_alloc W (.cells #[.string ⟨x.key.toArray⟩, .bool x.pf.six, .int .u64 x.pf.hi, .int .u64 x.pf.lo, .int .i64 x.pf.bits] 67 (0, 0)) _ (lt_of_block BX.out)).trans BX.out)
  have HB2 := Lib.hid (HB.out.alloc HB.out.size (.cells #[.string ⟨x.key.toArray⟩, .bool x.pf.six, .int .u64 x.pf.hi, .int .u64 x.pf.lo, .int .i64 x.pf.bits] 67 (0, 0)))
  have HL2 := Lib.hid (HL0.out.below ((Below.refl _ _).alloc (Nat.le_refl _) (.cells #[.string ⟨x.key.toArray⟩, .bool x.pf.six, .int .u64 x.pf.hi, .int .u64 x.pf.lo, .int .i64 x.pf.bits] 67 (0, 0))))
  generalize World.alloc W _ = W2 at BN BY HB2 HL2 ⊢
  generalize W.heap.size = nb at BN ⊢
  clear x0 x1 x2 x3 x4 x5 c0 c1 c2 c3 c4
  obtain ⟨⟨y0, y1, y2, y3, y4⟩, -⟩ := res5 BN.out
  obtain ⟨⟨x0, x1, x2, x3, x4, x5⟩, -⟩ := res6r BY.out
  go_wp2_with fail
  refine (isKey_any ⟨x.key.toArray⟩ W2 (by show x.key.length ≤ maxLen; have := HX.out.2.1; unfold maxLen; omega)).mono ?_
  rintro e w3 ⟨rfl, rfl⟩
  rw [HX.out.1]
  go_wp2_with fail
  refine (checkPrefix_any x.pf.six x.pf.hi x.pf.lo x.pf.bits W2 HX.out.2.2.1.1.1 HX.out.2.2.1.1.2.1).mono ?_
  rw [pfS_right HX.out.2.2.1]
  rintro e w4 ⟨rfl, hb3⟩
  clear y0 y1 y2 y3 y4 x0 x1 x2 x3 x4 x5
  have BN4 := Lib.hid ((hb3.block _ (lt_of_block BN.out)).trans BN.out)
  have BY4 := Lib.hid ((hb3.block _ (lt_of_block BY.out)).trans BY.out)
  have HB4 := Lib.hid (HB2.out.trans (hb3.mono HB2.out.size))
  have HL4 := Lib.hid (HL2.out.below hb3)
  obtain ⟨⟨y0, y1, y2, y3, y4⟩, -⟩ := res5 BN4.out
  obtain ⟨⟨x0, x1, x2, x3, x4, x5⟩, -⟩ := res6r BY4.out
  clear hb3 BN BY HB2 HL2
  go_wp2_with fail
  refine (inside2 x.pf p w4 HX.out.2.2.1 HP.out).mono ?_
  rintro e w5 ⟨b, rfl, h5, hb3⟩
  obtain rfl : b = true := h5.2 HX.out.2.2.2.1
  clear h5 y0 y1 y2 y3 y4 x0 x1 x2 x3 x4 x5
  have BN5 := Lib.hid ((hb3.block _ (lt_of_block BN4.out)).trans BN4.out)
  have BY5 := Lib.hid ((hb3.block _ (lt_of_block BY4.out)).trans BY4.out)
  have HB5 := Lib.hid (HB4.out.trans (hb3.mono HB4.out.size))
  have HL5 := Lib.hid (HL4.out.below hb3)
  obtain ⟨⟨y0, y1, y2, y3, y4⟩, -⟩ := res5 BN5.out
  obtain ⟨⟨x0, x1, x2, x3, x4, x5⟩, -⟩ := res6r BY5.out
  clear hb3 BN4 BY4 HB4 HL4
  have hw20 : IntKind.i64.wrap (p.bits + 20) = p.bits + 20 := IntWalk.i64_in _ (by omega)
  have hg1 : decide (p.bits + 20 < x.pf.bits) = false := by simpa using HX.out.2.2.2.2
  go_wp2_with fail
  rcases i with _ | j
  · go_quiet (fail)
    go_wp2_with fail
    go_ret
    exact ⟨rfl, below_dn HB5.out _⟩
  · obtain ⟨g6, off6, e6, hg6, hc6⟩ := HL5.out j (by omega)
    injection e6 with e6
    simp only [Addr.mk.injEq, and_true] at e6
    obtain ⟨rfl, rfl⟩ := e6
    obtain ⟨z0, -⟩ := le_cells hc6
    have hz := HLS.out j (by omega)
    generalize L.getD j noLe = z at z0 hz
    have kb : Op.bytesLess x.key z.key = false := by rw [bytesLess_eq]; exact decide_eq_false (List.lt_asymm hz)
    have ke : (x.key == z.key) = false := by
      rw [Bool.eq_false_iff]
      intro h
      rw [eq_of_beq h] at hz
      exact List.lt_irrefl _ hz
    clear hz hc6
    go_quiet (fail)
    go_wp2_with fail
    go_ret
    exact ⟨rfl, below_dn HB5.out _⟩
set_option maxRecDepth 100000 in
set_option maxHeartbeats 8000000 in
theorem checkPool0 (P : Pl) (AK AL : Option Addr) (ck cl : Nat) (w : World) (hK : pxAt w AK P.kept) (hL : leAt w AL P.ls) (ok : OkPl P) (hkey : ∀ x ∈ P.ls, isKey ⟨x.key.toArray⟩ = true ∧ x.key.length ≤ 40) (n1 : P.kept.length ≤ 200) (n2 : P.ls.length ≤ 200) (hcl : P.ls.length ≤ cl) :
    Calls Tryz.prog 26 #[plV P.pf (.slice AK P.kept.length ck) (.slice AL P.ls.length cl)] w fun e w' => e = .returned (.int .i64 0) ∧ Below w.heap.size w w' := by
  have HK := Lib.hid hK
  have HL := Lib.hid hL
  have HP := Lib.hid ok.pf
  have HKO := Lib.hid ok.kept
  have HLO : Hid (∀ x ∈ P.ls, isKey ⟨x.key.toArray⟩ = true ∧ x.key.length ≤ 40 ∧ okP x.pf ∧ insP x.pf P.pf ∧ x.pf.bits ≤ P.pf.bits + 20) := Lib.hid fun x hx => ⟨(hkey x hx).1, (hkey x hx).2, ok.ls x hx⟩
  have HOR := Lib.hid ok.ord
  have HOF := Lib.hid ok.off
  have HOK := Lib.hid ok.offK
  generalize P.kept = K at *
  generalize P.ls = L at *
  generalize P.pf = p at *
  have b0 := heap_alloc_new w (plBox p (.slice AK K.length ck) (.slice AL L.length cl))
  have hB : Below w.heap.size w (w.alloc (plBox p (.slice AK K.length ck) (.slice AL L.length cl))) := (Below.refl _ _).alloc (Nat.le_refl _) _
  have HB := Lib.hid hB
  have g1 : decide ((200 : Int) < (K.length : Int)) = false := by simp; omega
  have g2 : decide ((200 : Int) < (L.length : Int)) = false := by simp; omega
  clear hK hL ok hkey hB
  unfold plV
  go_enter Tryz.func26, Tryz.ntmps26
  go_upto_region 1 with (fail)
  unfold plBox at b0
  have HB' : Hid (Below w.heap.size w (w.alloc (.cells #[.bool p.six, .int .u64 p.hi, .int .u64 p.lo, .int .i64 p.bits, .slice AK K.length ck, .slice AL L.length cl] 53 (0, 0)))) := Lib.hid HB.out
  generalize World.alloc w _ = W at b0 HB' ⊢
  have BX := Lib.hid b0
  obtain ⟨⟨x0, x1, x2, x3, x4, x5⟩, -⟩ := res6r b0
  clear b0 HB
  go_wp2_with fail
  refine (checkPrefix_any p.six p.hi p.lo p.bits W HP.out.1.1 HP.out.1.2.1).mono ?_
  rw [pfS_right HP.out]
  rintro e W1 ⟨rfl, hb1⟩
  have BX1 := Lib.hid ((hb1.block _ (lt_of_block BX.out)).trans BX.out)
  have HB1 := Lib.hid (HB'.out.trans (hb1.mono HB'.out.size))
  clear hb1 x0 x1 x2 x3 x4 x5 BX HB'
  obtain ⟨⟨x0, x1, x2, x3, x4, x5⟩, -⟩ := res6r BX1.out
  go_wp2_with fail
  go_loopw [5, 6, 25] (fun _ _ v26 wr => ∃ k : Nat, k ≤ K.length ∧ v26 = .int .i64 k ∧ Below W1.heap.size W1 wr) (fun _ _ v26 _ => K.length - (intOf v26).toNat)
  case atStart => exact ⟨0, Nat.zero_le _, rfl, Below.refl _ _⟩
  case round =>
    obtain ⟨k, hk, rfl, hb⟩ := hrel
    have HBW := Lib.hid hb
    have BXr := Lib.hid ((hb.block _ (lt_of_block BX1.out)).trans BX1.out)
    by_cases hlt : k < K.length
    · obtain ⟨g5, off, hA, hgB, hcc⟩ := ((HK.out.below HB1.out).below hb) k hlt
      obtain ⟨c0, c1, c2, c3⟩ := px_cells hcc
      have HX := Lib.hid (HKO.out (K.getD k noPf) (rw_mem hlt))
      generalize K.getD k noPf = x at *
      have hd : decide ((k : Int) < (K.length : Int)) = true := by simp; omega
      have HBB := Lib.hid (hb.alloc hb.size (.cells #[.bool x.six, .int .u64 x.hi, .int .u64 x.lo, .int .i64 x.bits] 48 (0, 0)))
      have BN := Lib.hid (heap_alloc_new wr (.cells #[.bool x.six, .int .u64 x.hi, .int .u64 x.lo, .int .i64 x.bits] 48 (0, 0)))
      have BY := Lib.hid ((Below.heap_alloc wr (.cells #[.bool x.six, .int .u64 x.hi, .int .u64 x.lo, .int .i64 x.bits] 48 (0, 0)) _ (lt_of_block BXr.out)).trans BXr.out)
      subst hA
      clear hcc hb x0 x1 x2 x3 x4 x5
      go_wp2_with fail
      refine (checkPrefix_any x.six x.hi x.lo x.bits _ HX.out.1.1.1 HX.out.1.1.2.1).mono ?_
      rw [pfS_right HX.out.1]
      rintro e w3 ⟨rfl, hb3⟩
      have BN3 := (hb3.block _ (lt_of_block BN.out)).trans BN.out
      have BY3 := (hb3.block _ (lt_of_block BY.out)).trans BY.out
      have HB3 := Lib.hid (HBB.out.trans (hb3.mono HBB.out.size))
      obtain ⟨⟨y0, y1, y2, y3⟩, -⟩ := res4 BN3
      obtain ⟨⟨x0, x1, x2, x3, x4, x5⟩, -⟩ := res6r BY3
      clear hb3 BN3 BY3 BN BY HBB
      go_wp2_with fail
      refine (inside2 x p w3 HX.out.1 HP.out).mono ?_
      rintro e w4 ⟨b, rfl, h4, hb4⟩
      obtain rfl : b = true := h4.2 HX.out.2
      have HB4 := Lib.hid (HB3.out.trans (hb4.mono HB3.out.size))
      clear h4 hb4
      go_wp2_with fail
      exact ⟨⟨k + 1, by omega, by simp, HB4.out⟩, by simp [intOf]; omega⟩
    · have hkl : k = K.length := by omega
      subst hkl
      clear hb x0 x1 x2 x3 x4 x5
      obtain ⟨⟨x0, x1, x2, x3, x4, x5⟩, -⟩ := res6r BXr.out
      go_wp2_with fail
      have HBE := Lib.hid (HB1.out.trans (HBW.out.mono HB1.out.size))
      have HLr := Lib.hid (HL.out.below HBE.out)
      obtain ⟨W2, hW2⟩ : ∃ W2, W2 = wr := ⟨_, rfl⟩
      rw [← hW2] at BXr HBE HLr ⊢
      clear hW2 HBW x0 x1 x2 x3 x4 x5
      go_loopw [7, 8, 47] (fun _ _ v47 wr => ∃ k : Nat, k ≤ L.length ∧ v47 = .int .i64 k ∧ Below W2.heap.size W2 wr) (fun _ _ v47 _ => L.length - (intOf v47).toNat)
      case atStart => exact ⟨0, Nat.zero_le _, rfl, Below.refl _ _⟩
      case round =>
        obtain ⟨k, hk, rfl, hb⟩ := hrel
        have HBW := Lib.hid hb
        have BXr2 := Lib.hid ((hb.block _ (lt_of_block BXr.out)).trans BXr.out)
        obtain ⟨⟨x0, x1, x2, x3, x4, x5⟩, -⟩ := res6r BXr2.out
        by_cases hlt : k < L.length
        · have hd : decide ((k : Int) < (L.length : Int)) = true := by simp; omega
          have hlf := leaseFault0 p L (.slice AK K.length ck) AL cl k wr (HLr.out.below hb) HP.out HLO.out HOR.out hlt n2
          unfold plV at hlf
          clear hb
          go_wp2_with fail
          refine hlf.mono ?_
          rintro e w3 ⟨rfl, hb3⟩
          have HB3 := Lib.hid (HBW.out.trans (hb3.mono HBW.out.size))
          clear hb3 hlf
          go_wp2_with fail
          exact ⟨⟨k + 1, by omega, by simp, HB3.out⟩, by simp [intOf]; omega⟩
        · have hkl : k = L.length := by omega
          subst hkl
          have HBE2 := Lib.hid (HBE.out.trans (HBW.out.mono HBE.out.size))
          have HLr2 := Lib.hid (HL.out.below HBE2.out)
          have HKr2 := Lib.hid (HK.out.below HBE2.out)
          clear hb
          go_wp2_with fail
          obtain ⟨W3, hW3⟩ : ∃ W3, W3 = wr := ⟨_, rfl⟩
          rw [← hW3] at BXr2 HBE2 HLr2 HKr2 ⊢
          clear hW3 HBW x0 x1 x2 x3 x4 x5
          go_loopw [9, 10, 11, 60] (fun _ _ _ v60 wr => ∃ k : Nat, k ≤ L.length ∧ v60 = .int .i64 k ∧ Below W3.heap.size W3 wr) (fun _ _ _ v60 _ => L.length - (intOf v60).toNat)
          case atStart => exact ⟨0, Nat.zero_le _, rfl, Below.refl _ _⟩
          case round =>
            obtain ⟨k, hk, rfl, hb⟩ := hrel
            have HBW := Lib.hid hb
            have BXr3 := Lib.hid ((hb.block _ (lt_of_block BXr2.out)).trans BXr2.out)
            by_cases hlt : k < L.length
            · have HLw := Lib.hid (HLr2.out.below hb)
              have HKw := Lib.hid (HKr2.out.below hb)
              obtain ⟨g5, off, hA, hgB, hcc⟩ := HLw.out k hlt
              obtain ⟨c0, c1, c2, c3, c4⟩ := le_cells hcc
              have HX := Lib.hid (HLO.out (L.getD k noLe) (rw_mem hlt))
              have E1 : Hid (K.any (fun y => touchB y (L.getD k noLe).pf) = false) := Lib.hid (by
                rw [List.any_eq_false]
                intro y hy h
                exact (touchB_iff _ _).1 h (HOK.out _ (rw_mem hlt) y hy).symm)
              have E2 : Hid ((L.take k).any (fun y => touchB y.pf (L.getD k noLe).pf) = false) := Lib.hid (by
                rw [List.any_eq_false]
                intro y hy h
                obtain ⟨j, hj, rfl⟩ := List.mem_iff_getElem.1 hy
                have hj' : j < k := by rw [List.length_take] at hj; omega
                refine (touchB_iff _ _).1 h ?_
                rw [List.getElem_take, List.getD_eq_getElem?_getD, List.getElem?_eq_getElem hlt]
                exact List.pairwise_iff_getElem.1 HOF.out j k (by omega) hlt hj')
              generalize L.getD k noLe = x at *
              have hd : decide ((k : Int) < (L.length : Int)) = true := by simp; omega
              have HBB := Lib.hid (hb.alloc hb.size (.cells #[.string ⟨x.key.toArray⟩, .bool x.pf.six, .int .u64 x.pf.hi, .int .u64 x.pf.lo, .int .i64 x.pf.bits] 67 (0, 0)))
              have BN := Lib.hid (heap_alloc_new wr (.cells #[.string ⟨x.key.toArray⟩, .bool x.pf.six, .int .u64 x.pf.hi, .int .u64 x.pf.lo, .int .i64 x.pf.bits] 67 (0, 0)))
              have BY := Lib.hid ((Below.heap_alloc wr (.cells #[.string ⟨x.key.toArray⟩, .bool x.pf.six, .int .u64 x.pf.hi, .int .u64 x.pf.lo, .int .i64 x.pf.bits] 67 (0, 0)) _ (lt_of_block BXr3.out)).trans BXr3.out)
              have HKa := Lib.hid (HKw.out.below ((Below.refl _ _).alloc (Nat.le_refl _) (.cells #[.string ⟨x.key.toArray⟩, .bool x.pf.six, .int .u64 x.pf.hi, .int .u64 x.pf.lo, .int .i64 x.pf.bits] 67 (0, 0))))
              have HLa := Lib.hid (HLw.out.below ((Below.refl _ _).alloc (Nat.le_refl _) (.cells #[.string ⟨x.key.toArray⟩, .bool x.pf.six, .int .u64 x.pf.hi, .int .u64 x.pf.lo, .int .i64 x.pf.bits] 67 (0, 0))))
              subst hA
              clear hcc hb
              go_upto_region 27 with (fail)
              generalize World.alloc wr _ = W4 at HBB BN BY HKa HLa ⊢
              generalize wr.heap.size = nb at BN ⊢
              obtain ⟨⟨x0, x1, x2, x3, x4, x5⟩, -⟩ := res6r BY.out
              go_wp2_with fail
              refine (px_any AK ck K 62 #[.pointer (some ⟨nb, 0, none⟩)] (fun y => touchB y x.pf) W4 entersC1 HKa.out (by omega) (fun V e he hbv => checkP1 x e nb V ((hbv.block _ (lt_of_block BN.out)).trans BN.out) (HKO.out e he).1 HX.out.2.2.1)).mono ?_
              rw [E1.out]
              rintro e w5 ⟨rfl, hb5⟩
              have BN5 := Lib.hid ((hb5.block _ (lt_of_block BN.out)).trans BN.out)
              have BY5 := Lib.hid ((hb5.block _ (lt_of_block BY.out)).trans BY.out)
              have HB5 := Lib.hid (HBB.out.trans (hb5.mono HBB.out.size))
              have HL5 := Lib.hid (HLa.out.below hb5)
              clear hb5 x0 x1 x2 x3 x4 x5
              obtain ⟨⟨x0, x1, x2, x3, x4, x5⟩, -⟩ := res6r BY5.out
              have hkc : k ≤ cl := by omega
              have hc := le_any (some ⟨g5, off, none⟩) cl (L.take k) 65 #[.pointer (some ⟨nb, 0, none⟩)] (fun y => touchB y.pf x.pf) w5 entersC2 (RwAt.first HL5.out k) (by rw [List.length_take]; omega) (fun V e he hbv => checkP2 x e nb V ((hbv.block _ (lt_of_block BN5.out)).trans BN5.out) (HLO.out e (List.mem_of_mem_take he)).2.2.1 HX.out.2.2.1)
              rw [List.length_take, Nat.min_eq_left hk, E2.out] at hc
              go_wp2_with fail
              refine hc.mono ?_
              rintro e w6 ⟨rfl, hb6⟩
              have HB6 := Lib.hid (HB5.out.trans (hb6.mono HB5.out.size))
              clear hb6 hc
              go_wp2_with fail
              exact ⟨⟨k + 1, by omega, by simp, HB6.out⟩, by simp [intOf]; omega⟩
            · have hkl : k = L.length := by omega
              subst hkl
              clear hb
              go_wp2_with fail
              go_ret
              exact ⟨rfl, HBE2.out.trans (HBW.out.mono HBE2.out.size)⟩
end Go.Proofs.YtajifionclpphaaGreatDoor
