/- The reference's tests at right prefixes: Holds, LastOf, Within, touch, PrefixFault. -/
import Derived.Test.YtajifionclpphaaGreatDoorPoB
import Derived.Test.YtajifionclpphaaGreatDoorPhS
import Derived.Test.YtajifionclpphaaGreatDoorKey2
namespace Go.Proofs.YtajifionclpphaaGreatDoor
open Go.RowKit Go.Hw
theorem spanC_le {x y : Ad} (hx : fineA x) (hy : fineA y) : spanC x.six x.hi x.lo y.six y.hi y.lo ≤ 0 ↔ keyA x ≤ keyA y := by
  obtain ⟨s, h, l⟩ := x
  obtain ⟨s', h', l'⟩ := y
  have fx := hx
  have fy := hy
  obtain ⟨uh, ul, -⟩ := hx
  obtain ⟨uh', ul', -⟩ := hy
  have hb := sixAt_big
  have hf : ∀ {s : Bool} {h l : Int}, AddrFine s h l → s = false → nOf h l < 2 ^ 128 := fun hh e => by
    have := fine_num hh
    rw [e] at this
    exact Nat.lt_of_lt_of_le this (by decide)
  have e : ∀ h l : Int, 0 ≤ h → 0 ≤ l → (nOf h l : Int) = h * 18446744073709551616 + l := fun h l a b => by unfold nOf; omega
  have n1 := e h l uh.1 ul.1
  have n2 := e h' l' uh'.1 ul'.1
  dsimp only at *
  have same : orOf [cmpI h h', cmpI l l'] ≤ 0 ↔ nOf h l ≤ nOf h' l' := by
    have a1 := uh.1
    have a2 := uh'.1
    have b1 := ul
    have b2 := ul'
    rcases Int.lt_trichotomy h h' with q | q | q
    · have : cmpI h h' = -1 := by unfold cmpI; rw [if_pos q]
      simp [orOf, this]
      omega
    · subst q
      have : cmpI h h = 0 := cmpI_same h
      rcases Int.lt_trichotomy l l' with r | r | r
      · have e2 : cmpI l l' = -1 := by unfold cmpI; rw [if_pos r]
        simp [orOf, this, e2]; omega
      · subst r
        simp [orOf, this, cmpI_same l]
      · have e2 : cmpI l l' = 1 := by unfold cmpI; rw [if_neg (by omega), if_pos r]
        simp [orOf, this, e2]; omega
    · have : cmpI h h' = 1 := by unfold cmpI; rw [if_neg (by omega), if_pos q]
      simp [orOf, this]
      omega
  unfold spanC keyA keyN
  dsimp only
  by_cases hs : s = s'
  · subst hs
    rw [if_pos rfl, same]
    omega
  · rw [if_neg hs]
    rcases s with _ | _ <;> rcases s' with _ | _
    · exact absurd rfl hs
    · have := hf fx rfl
      simp
      omega
    · have := hf fy rfl
      simp
      omega
    · exact absurd rfl hs
/-- A test's answer. -/
def BoolIs (w : World) (p : Prop) (e : Ending) (w' : World) : Prop := ∃ b, e = .returned (.bool b) ∧ (b = true ↔ p) ∧ Below w.heap.size w w'
/-- A prefix holds an address, told by numbers. -/
theorem inP_two {p : Pf} (hp : okP p) {a : Ad} {m : Nat} (hm : lenA p.six - p.bits = m) : inP p (keyA a) ↔ keyA (adP p) ≤ keyA a ∧ keyA a ≤ keyA ⟨p.six, fil p.hi (m - 64), fil p.lo (min 64 m)⟩ := by
  obtain ⟨m', e1, e2, e3, e4⟩ := last_num hp
  obtain rfl : m' = m := by omega
  have e5 : keyA ⟨p.six, fil p.hi (m' - 64), fil p.lo (min 64 m')⟩ = keyA (adP p) + (2 ^ m' - 1) := by
    unfold keyA keyN adP
    dsimp only
    rw [e3]
    omega
  have hpw := Nat.two_pow_pos m'
  rw [e5]
  show keyA (adP p) ≤ keyA a ∧ keyA a < keyA (adP p) + 2 ^ (lenA p.six - p.bits).toNat ↔ _
  rw [hm, Int.toNat_natCast]
  omega
set_option maxRecDepth 100000 in
set_option maxHeartbeats 4000000 in
theorem refHolds2 (p : Pf) (a : Ad) (w : World) (hp : okP p) (ha : fineA a) :
    Calls Tryz.prog 106 #[.agg #[.bool p.six, .int .u64 p.hi, .int .u64 p.lo, .int .i64 p.bits], .agg #[.bool a.six, .int .u64 a.hi, .int .u64 a.lo]] w (BoolIs w (inP p (keyA a))) := by
  obtain ⟨m, hm, hm2, -, hfl⟩ := last_num hp
  have HI : Hid (inP p (keyA a) ↔ keyA (adP p) ≤ keyA a ∧ keyA a ≤ keyA ⟨p.six, fil p.hi (m - 64), fil p.lo (min 64 m)⟩) := Lib.hid (inP_two hp hm)
  have hb0 : 0 ≤ p.bits := hp.2.1
  have HM := Lib.hid hm
  have h1 := spanC_le (x := adP p) (y := a) hp.1 ha
  have h2 := spanC_le (x := a) (y := ⟨p.six, fil p.hi (m - 64), fil p.lo (min 64 m)⟩) ha hfl
  obtain ⟨up, uq, -⟩ := hp.1
  obtain ⟨uh, ul, -⟩ := ha
  obtain ⟨vh, vl, -⟩ := hfl
  have b0 : ((w.alloc (.cells #[.bool p.six, .int .u64 p.hi, .int .u64 p.lo, .int .i64 p.bits] 48 (0, 0))).alloc (.cells #[.bool a.six, .int .u64 a.hi, .int .u64 a.lo] 30 (0, 0))).heap[w.heap.size]? = some (.cells #[.bool p.six, .int .u64 p.hi, .int .u64 p.lo, .int .i64 p.bits] 48 (0, 0)) := (heap_alloc_old _ _ (by simp)).trans (heap_alloc_new w _)
  have b1 : ((w.alloc (.cells #[.bool p.six, .int .u64 p.hi, .int .u64 p.lo, .int .i64 p.bits] 48 (0, 0))).alloc (.cells #[.bool a.six, .int .u64 a.hi, .int .u64 a.lo] 30 (0, 0))).heap[w.heap.size + 1]? = some (.cells #[.bool a.six, .int .u64 a.hi, .int .u64 a.lo] 30 (0, 0)) := by
    have := heap_alloc_new (w.alloc (.cells #[.bool p.six, .int .u64 p.hi, .int .u64 p.lo, .int .i64 p.bits] 48 (0, 0))) (.cells #[.bool a.six, .int .u64 a.hi, .int .u64 a.lo] 30 (0, 0))
    simp only [Re_size] at this
    exact this
  have HB := Lib.hid (((Below.refl w.heap.size w).alloc (Nat.le_refl _) (.cells #[.bool p.six, .int .u64 p.hi, .int .u64 p.lo, .int .i64 p.bits] 48 (0, 0))).alloc (by simp) (.cells #[.bool a.six, .int .u64 a.hi, .int .u64 a.lo] 30 (0, 0)))
  go_enter Tryz.func106, Tryz.ntmps106
  go_upto_region 1 with (fail)
  generalize World.alloc (World.alloc w _) _ = W at b0 b1 HB ⊢
  generalize w.heap.size + 1 = ba at b0 b1 ⊢
  have HB2 := Lib.hid HB.out
  have hba := lt_of_block b1
  have hbp := lt_of_block b0
  obtain ⟨⟨p0, p1, p2, p3⟩, -⟩ := res4 b0
  obtain ⟨a0, a1, a2, -⟩ := res3 b1
  have H1 := Lib.hid h1
  have H2 := Lib.hid h2
  clear b0 b1 h1 h2 hm
  obtain ⟨c1, e1⟩ : ∃ c, c = spanC p.six p.hi p.lo a.six a.hi a.lo := ⟨_, rfl⟩
  obtain ⟨c2, e2⟩ : ∃ c, c = spanC a.six a.hi a.lo p.six (fil p.hi (m - 64)) (fil p.lo (min 64 m)) := ⟨_, rfl⟩
  have C1 := Lib.hid e1
  have C2 := Lib.hid e2
  clear e1 e2
  by_cases hd : c1 ≤ 0
  · have D1 : Hid (decide (c1 ≤ 0) = true) := Lib.hid (by simpa using hd)
    obtain ⟨b2, E2⟩ : ∃ b, b = decide (c2 ≤ 0) := ⟨_, rfl⟩
    have D2 := Lib.hid E2.symm
    have HF : Hid (b2 = true ↔ inP p (keyA a)) := Lib.hid (by rw [E2, HI.out, decide_eq_true_eq, C2.out]; exact ⟨fun h => ⟨H1.out.1 (by show spanC p.six p.hi p.lo _ _ _ ≤ 0; rw [← C1.out]; exact hd), H2.out.1 h⟩, fun h => H2.out.2 h.2⟩)
    clear E2 hd
    -- RT
    refine wp_region_exact 15 (fun f' => ⟨#[.agg #[Value.bool p.six, Value.int IntKind.u64 p.hi, Value.int IntKind.u64 p.lo, Value.int IntKind.i64 p.bits], .agg #[Value.bool a.six, Value.int IntKind.u64 a.hi, Value.int IntKind.u64 a.lo], .pointer (some ⟨w.heap.size, 0, none⟩), .pointer (some ⟨ba, 0, none⟩), .bool false, f' 0, f' 1, f' 2, f' 3, f' 4, f' 5, f' 6, f' 7, f' 8, f' 9, f' 10, f' 11, f' 12, f' 13, f' 14], []⟩) (fun i9 => match i9 with | 0 => .pointer (some ⟨w.heap.size, 0, none⟩) | 1 => .agg #[.bool p.six, .int .u64 p.hi, .int .u64 p.lo] | 2 => wideV (wd p.six p.hi p.lo) | 3 => .agg #[.bool a.six, .int .u64 a.hi, .int .u64 a.lo] | 4 => wideV (wd a.six a.hi a.lo) | 5 => .int .i64 c1 | 6 => .bool true | 7 => .bool true | 8 => .agg #[.bool a.six, .int .u64 a.hi, .int .u64 a.lo] | 9 => wideV (wd a.six a.hi a.lo) | 10 => .agg #[.bool p.six, .int .u64 p.hi, .int .u64 p.lo, .int .i64 p.bits] | 11 => wideV (wd p.six (fil p.hi (m - 64)) (fil p.lo (min 64 m))) | 12 => .int .i64 c2 | 13 => .bool b2 | 14 => .bool b2 | _ => undef) (fun lb w' => Hid (Below W.heap.size W w')) (fun _ => undef) 10 (show Tryz.prog.follows .mixedOrders = true from by kernel_rfl) (by kernel_rfl) ?_ ?_ (Lib.hid (Below.refl _ _).drew)
    · intro i9 op hi9 ho lb f' w' hl hS hd
      have hcase : i9 = 0 ∨ i9 = 1 ∨ i9 = 2 ∨ i9 = 3 ∨ i9 = 4 ∨ i9 = 5 ∨ i9 = 6 ∨ i9 = 7 ∨ i9 = 8 ∨ i9 = 9 ∨ i9 = 10 ∨ i9 = 11 ∨ i9 = 12 ∨ i9 = 13 ∨ i9 = 14 := by omega
      rcases hcase with rfl | rfl | rfl | rfl | rfl | rfl | rfl | rfl | rfl | rfl | rfl | rfl | rfl | rfl | rfl <;> (replace ho := Option.some.inj ho; subst ho)
      · refine OpStep.of rfl ?_
        unfold Oper.wp
        go_simp
        first | exact ⟨by first | (simp [upd]; done) | (simp [upd]; omega), hS⟩ | (simp [upd]; done) | (simp [upd]; omega)
      · have e0 : f' 0 = .pointer (some ⟨w.heap.size, 0, none⟩) := (hd ⟨0, .data⟩ (by simp) rfl).2
        refine OpStep.of rfl ?_
        have p0' : w'.cell? ⟨w.heap.size, 0, none⟩ = some (.bool p.six) := (hS.out.cell (p := ⟨w.heap.size, _, none⟩) hbp).trans p0
        have p1' : w'.cell? ⟨w.heap.size, 1, none⟩ = some (.int .u64 p.hi) := (hS.out.cell (p := ⟨w.heap.size, _, none⟩) hbp).trans p1
        have p2' : w'.cell? ⟨w.heap.size, 2, none⟩ = some (.int .u64 p.lo) := (hS.out.cell (p := ⟨w.heap.size, _, none⟩) hbp).trans p2
        unfold Oper.wp
        go_simp
        first | exact ⟨by first | (simp [upd, e0]; done) | (simp [upd, e0]; omega), hS⟩ | (simp [upd, e0]; done) | (simp [upd, e0]; omega)
      · have e1 : f' 1 = .agg #[.bool p.six, .int .u64 p.hi, .int .u64 p.lo] := (hd ⟨1, .data⟩ (by simp) rfl).2
        refine OpStep.of rfl ?_
        unfold Oper.wp
        go_simp
        refine (of_any p.six p.hi p.lo w' up uq).mono ?_
        rintro e w9 ⟨rfl, hb9⟩
        exact ⟨by simp [upd, e1], Lib.hid (hS.out.trans (hb9.mono hS.out.size))⟩
      · refine OpStep.of rfl ?_
        have a0' : w'.cell? ⟨ba, 0, none⟩ = some (.bool a.six) := (hS.out.cell (p := ⟨ba, _, none⟩) hba).trans a0
        have a1' : w'.cell? ⟨ba, 1, none⟩ = some (.int .u64 a.hi) := (hS.out.cell (p := ⟨ba, _, none⟩) hba).trans a1
        have a2' : w'.cell? ⟨ba, 2, none⟩ = some (.int .u64 a.lo) := (hS.out.cell (p := ⟨ba, _, none⟩) hba).trans a2
        unfold Oper.wp
        go_simp
        first | exact ⟨by first | (simp [upd]; done) | (simp [upd]; omega), hS⟩ | (simp [upd]; done) | (simp [upd]; omega)
      · have e3 : f' 3 = .agg #[.bool a.six, .int .u64 a.hi, .int .u64 a.lo] := (hd ⟨3, .data⟩ (by simp) rfl).2
        refine OpStep.of rfl ?_
        unfold Oper.wp
        go_simp
        refine (of_any a.six a.hi a.lo w' uh ul).mono ?_
        rintro e w9 ⟨rfl, hb9⟩
        exact ⟨by simp [upd, e3], Lib.hid (hS.out.trans (hb9.mono hS.out.size))⟩
      · have e2 : f' 2 = wideV (wd p.six p.hi p.lo) := (hd ⟨2, .data⟩ (by simp) rfl).2
        have e4 : f' 4 = wideV (wd a.six a.hi a.lo) := (hd ⟨4, .data⟩ (by simp) rfl).2
        refine OpStep.of rfl ?_
        unfold Oper.wp
        go_simp
        refine (cmp_wd p.six p.hi p.lo a.six a.hi a.lo w' up uq uh ul).mono ?_
        rintro e w9 ⟨rfl, hb9⟩
        exact ⟨by simp [upd, e2, e4, C1.out], Lib.hid (hS.out.trans (hb9.mono hS.out.size))⟩
      · have e5 : f' 5 = .int .i64 c1 := (hd ⟨5, .data⟩ (by simp) rfl).2
        refine OpStep.of rfl ?_
        unfold Oper.wp
        go_simp
        first | exact ⟨by first | (simp [upd, e5, D1.out]; done) | (simp [upd, e5, D1.out]; omega), hS⟩ | (simp [upd, e5, D1.out]; done) | (simp [upd, e5, D1.out]; omega)
      · have e6 : f' 6 = .bool true := (hd ⟨6, .data⟩ (by simp) rfl).2
        refine OpStep.of rfl ?_
        unfold Oper.wp
        go_simp
        first | exact ⟨by first | (simp [upd, e6]; done) | (simp [upd, e6]; omega), hS⟩ | (simp [upd, e6]; done) | (simp [upd, e6]; omega)
      · refine OpStep.of (by have e7 : f' 7 = .bool true := (hd ⟨7, .guard⟩ (by simp) rfl).2; simp [Region.wanted, yielded, e7]) ?_
        have a0' : w'.cell? ⟨ba, 0, none⟩ = some (.bool a.six) := (hS.out.cell (p := ⟨ba, _, none⟩) hba).trans a0
        have a1' : w'.cell? ⟨ba, 1, none⟩ = some (.int .u64 a.hi) := (hS.out.cell (p := ⟨ba, _, none⟩) hba).trans a1
        have a2' : w'.cell? ⟨ba, 2, none⟩ = some (.int .u64 a.lo) := (hS.out.cell (p := ⟨ba, _, none⟩) hba).trans a2
        unfold Oper.wp
        go_simp
        first | exact ⟨by first | (simp [upd]; done) | (simp [upd]; omega), hS⟩ | (simp [upd]; done) | (simp [upd]; omega)
      · have e8 : f' 8 = .agg #[.bool a.six, .int .u64 a.hi, .int .u64 a.lo] := (hd ⟨8, .data⟩ (by simp) rfl).2
        refine OpStep.of (by have e7 : f' 7 = .bool true := (hd ⟨7, .guard⟩ (by simp) rfl).2; simp [Region.wanted, yielded, e7]) ?_
        unfold Oper.wp
        go_simp
        refine (of_any a.six a.hi a.lo w' uh ul).mono ?_
        rintro e w9 ⟨rfl, hb9⟩
        exact ⟨by simp [upd, e8], Lib.hid (hS.out.trans (hb9.mono hS.out.size))⟩
      · refine OpStep.of (by have e7 : f' 7 = .bool true := (hd ⟨7, .guard⟩ (by simp) rfl).2; simp [Region.wanted, yielded, e7]) ?_
        have p0' : w'.cell? ⟨w.heap.size, 0, none⟩ = some (.bool p.six) := (hS.out.cell (p := ⟨w.heap.size, _, none⟩) hbp).trans p0
        have p1' : w'.cell? ⟨w.heap.size, 1, none⟩ = some (.int .u64 p.hi) := (hS.out.cell (p := ⟨w.heap.size, _, none⟩) hbp).trans p1
        have p2' : w'.cell? ⟨w.heap.size, 2, none⟩ = some (.int .u64 p.lo) := (hS.out.cell (p := ⟨w.heap.size, _, none⟩) hbp).trans p2
        have p3' : w'.cell? ⟨w.heap.size, 3, none⟩ = some (.int .i64 p.bits) := (hS.out.cell (p := ⟨w.heap.size, _, none⟩) hbp).trans p3
        unfold Oper.wp
        go_simp
        first | exact ⟨by first | (simp [upd]; done) | (simp [upd]; omega), hS⟩ | (simp [upd]; done) | (simp [upd]; omega)
      · have e10 : f' 10 = .agg #[.bool p.six, .int .u64 p.hi, .int .u64 p.lo, .int .i64 p.bits] := (hd ⟨10, .data⟩ (by simp) rfl).2
        refine OpStep.of (by have e7 : f' 7 = .bool true := (hd ⟨7, .guard⟩ (by simp) rfl).2; simp [Region.wanted, yielded, e7]) ?_
        unfold Oper.wp
        go_simp
        refine (lastOf_wd p.six p.hi p.lo p.bits w' up uq m HM.out hm2 hb0).mono ?_
        rintro e w9 ⟨rfl, hb9⟩
        exact ⟨by simp [upd, e10, wideV, arr9], Lib.hid (hS.out.trans (hb9.mono hS.out.size))⟩
      · have e9 : f' 9 = wideV (wd a.six a.hi a.lo) := (hd ⟨9, .data⟩ (by simp) rfl).2
        have e11 : f' 11 = wideV (wd p.six (fil p.hi (m - 64)) (fil p.lo (min 64 m))) := (hd ⟨11, .data⟩ (by simp) rfl).2
        refine OpStep.of (by have e7 : f' 7 = .bool true := (hd ⟨7, .guard⟩ (by simp) rfl).2; simp [Region.wanted, yielded, e7]) ?_
        unfold Oper.wp
        go_simp
        refine (cmp_wd a.six a.hi a.lo p.six (fil p.hi (m - 64)) (fil p.lo (min 64 m)) w' uh ul vh vl).mono ?_
        rintro e w9 ⟨rfl, hb9⟩
        exact ⟨by simp [upd, e9, e11, C2.out], Lib.hid (hS.out.trans (hb9.mono hS.out.size))⟩
      · have e12 : f' 12 = .int .i64 c2 := (hd ⟨12, .data⟩ (by simp) rfl).2
        refine OpStep.of (by have e7 : f' 7 = .bool true := (hd ⟨7, .guard⟩ (by simp) rfl).2; simp [Region.wanted, yielded, e7]) ?_
        unfold Oper.wp
        go_simp
        first | exact ⟨by first | (simp [upd, e12, D2.out]; done) | (simp [upd, e12, D2.out]; omega), hS⟩ | (simp [upd, e12, D2.out]; done) | (simp [upd, e12, D2.out]; omega)
      · have e7 : f' 7 = .bool true := (hd ⟨7, .data⟩ (by simp) rfl).2
        have e13 : f' 13 = .bool b2 := (hd ⟨13, .data⟩ (by simp) rfl).2
        refine OpStep.of rfl ?_
        unfold Oper.wp
        go_simp
        first | exact ⟨by first | (simp [upd, e7, e13]; done) | (simp [upd, e7, e13]; omega), hS⟩ | (simp [upd, e7, e13]; done) | (simp [upd, e7, e13]; omega)
    · intro op ho lb f' w' hd hS
      have e14 : f' 14 = .bool b2 := (hd 14 (by omega)).2
      replace ho := Option.some.inj ho
      subst ho
      refine ⟨rfl, ?_⟩
      unfold Oper.wp
      go_simp
      have HB3 := Lib.hid hS.out
      clear hd
      go_wp2_with fail
      go_ret
      exact ⟨b2, rfl, HF.out, HB2.out.trans (HB3.out.mono HB2.out.size)⟩
    -- END RT
  · have D1 : Hid (decide (c1 ≤ 0) = false) := Lib.hid (by simpa using hd)
    have HF : Hid (¬ inP p (keyA a)) := Lib.hid (by rw [HI.out]; exact fun h => hd (by rw [C1.out]; exact H1.out.2 h.1))
    clear hd
    -- RF
    refine wp_region_exact 15 (fun f' => ⟨#[.agg #[Value.bool p.six, Value.int IntKind.u64 p.hi, Value.int IntKind.u64 p.lo, Value.int IntKind.i64 p.bits], .agg #[Value.bool a.six, Value.int IntKind.u64 a.hi, Value.int IntKind.u64 a.lo], .pointer (some ⟨w.heap.size, 0, none⟩), .pointer (some ⟨ba, 0, none⟩), .bool false, f' 0, f' 1, f' 2, f' 3, f' 4, f' 5, f' 6, f' 7, f' 8, f' 9, f' 10, f' 11, f' 12, f' 13, f' 14], []⟩) (fun i9 => match i9 with | 0 => .pointer (some ⟨w.heap.size, 0, none⟩) | 1 => .agg #[.bool p.six, .int .u64 p.hi, .int .u64 p.lo] | 2 => wideV (wd p.six p.hi p.lo) | 3 => .agg #[.bool a.six, .int .u64 a.hi, .int .u64 a.lo] | 4 => wideV (wd a.six a.hi a.lo) | 5 => .int .i64 c1 | 6 => .bool false | 7 => .bool false | 8 => undef | 9 => undef | 10 => undef | 11 => undef | 12 => undef | 13 => undef | 14 => .bool false | _ => undef) (fun lb w' => Hid (Below W.heap.size W w')) (fun _ => undef) 10 (show Tryz.prog.follows .mixedOrders = true from by kernel_rfl) (by kernel_rfl) ?_ ?_ (Lib.hid (Below.refl _ _).drew)
    · intro i9 op hi9 ho lb f' w' hl hS hd
      have hcase : i9 = 0 ∨ i9 = 1 ∨ i9 = 2 ∨ i9 = 3 ∨ i9 = 4 ∨ i9 = 5 ∨ i9 = 6 ∨ i9 = 7 ∨ i9 = 8 ∨ i9 = 9 ∨ i9 = 10 ∨ i9 = 11 ∨ i9 = 12 ∨ i9 = 13 ∨ i9 = 14 := by omega
      rcases hcase with rfl | rfl | rfl | rfl | rfl | rfl | rfl | rfl | rfl | rfl | rfl | rfl | rfl | rfl | rfl <;> (replace ho := Option.some.inj ho; subst ho)
      · refine OpStep.of rfl ?_
        unfold Oper.wp
        go_simp
        first | exact ⟨by first | (simp [upd]; done) | (simp [upd]; omega), hS⟩ | (simp [upd]; done) | (simp [upd]; omega)
      · have e0 : f' 0 = .pointer (some ⟨w.heap.size, 0, none⟩) := (hd ⟨0, .data⟩ (by simp) rfl).2
        refine OpStep.of rfl ?_
        have p0' : w'.cell? ⟨w.heap.size, 0, none⟩ = some (.bool p.six) := (hS.out.cell (p := ⟨w.heap.size, _, none⟩) hbp).trans p0
        have p1' : w'.cell? ⟨w.heap.size, 1, none⟩ = some (.int .u64 p.hi) := (hS.out.cell (p := ⟨w.heap.size, _, none⟩) hbp).trans p1
        have p2' : w'.cell? ⟨w.heap.size, 2, none⟩ = some (.int .u64 p.lo) := (hS.out.cell (p := ⟨w.heap.size, _, none⟩) hbp).trans p2
        unfold Oper.wp
        go_simp
        first | exact ⟨by first | (simp [upd, e0]; done) | (simp [upd, e0]; omega), hS⟩ | (simp [upd, e0]; done) | (simp [upd, e0]; omega)
      · have e1 : f' 1 = .agg #[.bool p.six, .int .u64 p.hi, .int .u64 p.lo] := (hd ⟨1, .data⟩ (by simp) rfl).2
        refine OpStep.of rfl ?_
        unfold Oper.wp
        go_simp
        refine (of_any p.six p.hi p.lo w' up uq).mono ?_
        rintro e w9 ⟨rfl, hb9⟩
        exact ⟨by simp [upd, e1], Lib.hid (hS.out.trans (hb9.mono hS.out.size))⟩
      · refine OpStep.of rfl ?_
        have a0' : w'.cell? ⟨ba, 0, none⟩ = some (.bool a.six) := (hS.out.cell (p := ⟨ba, _, none⟩) hba).trans a0
        have a1' : w'.cell? ⟨ba, 1, none⟩ = some (.int .u64 a.hi) := (hS.out.cell (p := ⟨ba, _, none⟩) hba).trans a1
        have a2' : w'.cell? ⟨ba, 2, none⟩ = some (.int .u64 a.lo) := (hS.out.cell (p := ⟨ba, _, none⟩) hba).trans a2
        unfold Oper.wp
        go_simp
        first | exact ⟨by first | (simp [upd]; done) | (simp [upd]; omega), hS⟩ | (simp [upd]; done) | (simp [upd]; omega)
      · have e3 : f' 3 = .agg #[.bool a.six, .int .u64 a.hi, .int .u64 a.lo] := (hd ⟨3, .data⟩ (by simp) rfl).2
        refine OpStep.of rfl ?_
        unfold Oper.wp
        go_simp
        refine (of_any a.six a.hi a.lo w' uh ul).mono ?_
        rintro e w9 ⟨rfl, hb9⟩
        exact ⟨by simp [upd, e3], Lib.hid (hS.out.trans (hb9.mono hS.out.size))⟩
      · have e2 : f' 2 = wideV (wd p.six p.hi p.lo) := (hd ⟨2, .data⟩ (by simp) rfl).2
        have e4 : f' 4 = wideV (wd a.six a.hi a.lo) := (hd ⟨4, .data⟩ (by simp) rfl).2
        refine OpStep.of rfl ?_
        unfold Oper.wp
        go_simp
        refine (cmp_wd p.six p.hi p.lo a.six a.hi a.lo w' up uq uh ul).mono ?_
        rintro e w9 ⟨rfl, hb9⟩
        exact ⟨by simp [upd, e2, e4, C1.out], Lib.hid (hS.out.trans (hb9.mono hS.out.size))⟩
      · have e5 : f' 5 = .int .i64 c1 := (hd ⟨5, .data⟩ (by simp) rfl).2
        refine OpStep.of rfl ?_
        unfold Oper.wp
        go_simp
        first | exact ⟨by first | (simp [upd, e5, D1.out]; done) | (simp [upd, e5, D1.out]; omega), hS⟩ | (simp [upd, e5, D1.out]; done) | (simp [upd, e5, D1.out]; omega)
      · have e6 : f' 6 = .bool false := (hd ⟨6, .data⟩ (by simp) rfl).2
        refine OpStep.of rfl ?_
        unfold Oper.wp
        go_simp
        first | exact ⟨by first | (simp [upd, e6]; done) | (simp [upd, e6]; omega), hS⟩ | (simp [upd, e6]; done) | (simp [upd, e6]; omega)
      · refine OpStep.not (by have e7 : f' 7 = .bool false := (hd ⟨7, .guard⟩ (by simp) rfl).2; simp [Region.wanted, yielded, e7]) ?_
        exact ⟨rfl, hS⟩
      · refine OpStep.not (by have e7 : f' 7 = .bool false := (hd ⟨7, .guard⟩ (by simp) rfl).2; simp [Region.wanted, yielded, e7]) ?_
        exact ⟨rfl, hS⟩
      · refine OpStep.not (by have e7 : f' 7 = .bool false := (hd ⟨7, .guard⟩ (by simp) rfl).2; simp [Region.wanted, yielded, e7]) ?_
        exact ⟨rfl, hS⟩
      · refine OpStep.not (by have e7 : f' 7 = .bool false := (hd ⟨7, .guard⟩ (by simp) rfl).2; simp [Region.wanted, yielded, e7]) ?_
        exact ⟨rfl, hS⟩
      · refine OpStep.not (by have e7 : f' 7 = .bool false := (hd ⟨7, .guard⟩ (by simp) rfl).2; simp [Region.wanted, yielded, e7]) ?_
        exact ⟨rfl, hS⟩
      · refine OpStep.not (by have e7 : f' 7 = .bool false := (hd ⟨7, .guard⟩ (by simp) rfl).2; simp [Region.wanted, yielded, e7]) ?_
        exact ⟨rfl, hS⟩
      · have e7 : f' 7 = .bool false := (hd ⟨7, .data⟩ (by simp) rfl).2
        have e13 : f' 13 = undef := (hd ⟨13, .data⟩ (by simp) rfl).2
        refine OpStep.of rfl ?_
        unfold Oper.wp
        go_simp
        first | exact ⟨by first | (simp [upd, e7, e13]; done) | (simp [upd, e7, e13]; omega), hS⟩ | (simp [upd, e7, e13]; done) | (simp [upd, e7, e13]; omega)
    · intro op ho lb f' w' hd hS
      have e14 : f' 14 = .bool false := (hd 14 (by omega)).2
      replace ho := Option.some.inj ho
      subst ho
      refine ⟨rfl, ?_⟩
      unfold Oper.wp
      go_simp
      have HB3 := Lib.hid hS.out
      clear hd
      go_wp2_with fail
      go_ret
      exact ⟨false, rfl, ⟨fun h => absurd h (by decide), fun h => absurd h HF.out⟩, HB2.out.trans (HB3.out.mono HB2.out.size)⟩
    -- END RF
set_option maxRecDepth 100000 in
set_option maxHeartbeats 1000000 in
theorem refLast (p : Pf) (m : Nat) (w : World) (hp : okP p) (hm : lenA p.six - p.bits = m) :
    Calls Tryz.prog 107 #[.agg #[.bool p.six, .int .u64 p.hi, .int .u64 p.lo, .int .i64 p.bits]] w fun e w' => e = .returned (.agg #[.bool p.six, .int .u64 (fil p.hi (m - 64)), .int .u64 (fil p.lo (min 64 m))]) ∧ Below w.heap.size w w' := by
  obtain ⟨m', e1, hm2, -, hfl⟩ := last_num hp
  obtain rfl : m' = m := by omega
  have hb0 : 0 ≤ p.bits := hp.2.1
  obtain ⟨up, uq, -⟩ := hp.1
  obtain ⟨vh, vl, -⟩ := hfl
  have HM := Lib.hid hm
  clear hm e1
  go_enter Tryz.func107, Tryz.ntmps107
  go_wp2_with fail
  refine (lastOf_wd p.six p.hi p.lo p.bits _ up uq m' HM.out hm2 hb0).mono ?_
  rintro e W1 ⟨rfl, hb⟩
  have hz1 : W1.heap[w.heap.size + 1]? = some (.cells #[.bool false, .int .u64 0, .int .u64 0] 30 (0, 0)) := by
    have h1 := heap_alloc_new (w.alloc (.cells #[.bool p.six, .int .u64 p.hi, .int .u64 p.lo, .int .i64 p.bits] 48 (0, 0))) (.cells #[.bool false, .int .u64 0, .int .u64 0] 30)
    simp only [Re_size] at h1
    exact (hb.block _ (by simp)).trans h1
  have hB1 : Below w.heap.size w W1 := (((Below.refl _ _).alloc (Nat.le_refl _) _).alloc (by simp <;> omega) _).trans (hb.mono (by simp <;> omega))
  have HZ1 := Lib.hid hz1
  have HB1 := Lib.hid hB1
  clear hb hz1 hB1
  go_wp2_with fail
  refine (wideAddr_wd p.six (fil p.hi (m' - 64)) (fil p.lo (min 64 m')) _ vh vl).mono ?_
  rintro e W2 ⟨rfl, hb2⟩
  have hz2 := (hb2.block _ (lt_of_block HZ1.out)).trans HZ1.out
  have HB2 := Lib.hid (HB1.out.trans (hb2.mono HB1.out.size))
  obtain ⟨z0, z1, z2, f0, f1, f2⟩ := res3 hz2
  have HZ2 := Lib.hid hz2
  clear hb2 hz2 HZ1 HB1
  go_wp2_with fail
  clear z0 z1 z2 f0 f1 f2
  generalize hW : World.setCell _ _ _ = W9
  have hr := re3 HZ2.out hW
  obtain ⟨y0, y1, y2, -⟩ := res3 hr.blk
  refine bodyPost_ret (v := .agg #[.bool p.six, .int .u64 (fil p.hi (m' - 64)), .int .u64 (fil p.lo (min 64 m'))]) (by simp [results, Tryz.results107, go_sem, y0, y1, y2]) rfl ⟨rfl, hr.below HB2.out (by omega)⟩
/-- A prefix is within another one: its first and its last address are. -/
theorem ins_two {p q : Pf} (hp : okP p) {m : Nat} (hm : lenA p.six - p.bits = m) : insP p q ↔ inP q (keyA (adP p)) ∧ inP q (keyA ⟨p.six, fil p.hi (m - 64), fil p.lo (min 64 m)⟩) := by
  obtain ⟨m', e1, e2, e3, e4⟩ := last_num hp
  obtain rfl : m' = m := by omega
  have e5 : keyA ⟨p.six, fil p.hi (m' - 64), fil p.lo (min 64 m')⟩ = keyA (adP p) + (2 ^ m' - 1) := by
    unfold keyA keyN adP
    dsimp only
    rw [e3]
    omega
  have hpw := Nat.two_pow_pos m'
  have hin : ∀ n, inP p n ↔ keyA (adP p) ≤ n ∧ n < keyA (adP p) + 2 ^ m' := fun n => by
    show keyA (adP p) ≤ n ∧ n < keyA (adP p) + 2 ^ (lenA p.six - p.bits).toNat ↔ _
    rw [hm, Int.toNat_natCast]
  rw [e5]
  constructor
  · intro h
    exact ⟨h _ ((hin _).2 ⟨Nat.le_refl _, by omega⟩), h _ ((hin _).2 ⟨by omega, by omega⟩)⟩
  · rintro ⟨⟨a1, a2⟩, b1, b2⟩ n hn
    have := (hin n).1 hn
    exact ⟨by omega, by omega⟩
/-- Two prefixes have a number in common just where one is within the other. -/
theorem touch_two {p q : Pf} (hp : okP p) (hq : okP q) : ¬ offP p q ↔ insP p q ∨ insP q p := by
  constructor
  · intro h
    have h' : ∃ n, inP p n ∧ inP q n := Classical.byContradiction fun hn => h fun n h1 h2 => hn ⟨n, h1, h2⟩
    obtain ⟨n, h1, h2⟩ := h'
    rcases Nat.le_total (bkP p).2 (bkP q).2 with hle | hle
    · have := nest (bkP_al hp).1 (bkP_al hq).1 hle h1 h2
      exact .inl fun k hk => ⟨Nat.le_trans this.1 hk.1, Nat.lt_of_lt_of_le hk.2 this.2⟩
    · have := nest (bkP_al hq).1 (bkP_al hp).1 hle h2 h1
      exact .inr fun k hk => ⟨Nat.le_trans this.1 hk.1, Nat.lt_of_lt_of_le hk.2 this.2⟩
  · rintro (h | h) hoff
    · exact hoff _ (inP_first p) (h _ (inP_first p))
    · exact hoff _ (h _ (inP_first q)) (inP_first q)
theorem bool_of (p : Prop) : ∃ b : Bool, (b = true ↔ p) := by
  classical
  exact ⟨decide p, by simp⟩
theorem bool_same {a b : Bool} {p : Prop} (ha : a = true ↔ p) (hb : b = true ↔ p) : a = b := by
  rw [Bool.eq_iff_iff, ha, hb]
set_option maxRecDepth 100000 in
set_option maxHeartbeats 4000000 in
theorem refWithin2 (p q : Pf) (w : World) (hp : okP p) (hq : okP q) :
    Calls Tryz.prog 53 #[.agg #[.bool p.six, .int .u64 p.hi, .int .u64 p.lo, .int .i64 p.bits], .agg #[.bool q.six, .int .u64 q.hi, .int .u64 q.lo, .int .i64 q.bits]] w (BoolIs w (insP p q)) := by
  obtain ⟨m, hm, hm2, -, hfl⟩ := last_num hp
  have HI := Lib.hid (ins_two (q := q) hp hm)
  obtain ⟨b1, h1⟩ := bool_of (inP q (keyA (adP p)))
  obtain ⟨b2, h2⟩ := bool_of (inP q (keyA ⟨p.six, fil p.hi (m - 64), fil p.lo (min 64 m)⟩))
  have H1 := Lib.hid h1
  have H2 := Lib.hid h2
  have HM := Lib.hid hm
  have HP := Lib.hid hp
  have HQ := Lib.hid hq
  have HL : Hid (fineA ⟨p.six, fil p.hi (m - 64), fil p.lo (min 64 m)⟩) := Lib.hid hfl
  clear h1 h2 hm hp hq hfl
  have b0 : ((w.alloc (.cells #[.bool p.six, .int .u64 p.hi, .int .u64 p.lo, .int .i64 p.bits] 48 (0, 0))).alloc (.cells #[.bool q.six, .int .u64 q.hi, .int .u64 q.lo, .int .i64 q.bits] 48 (0, 0))).heap[w.heap.size]? = some (.cells #[.bool p.six, .int .u64 p.hi, .int .u64 p.lo, .int .i64 p.bits] 48 (0, 0)) := (heap_alloc_old _ _ (by simp)).trans (heap_alloc_new w _)
  have bb1 : ((w.alloc (.cells #[.bool p.six, .int .u64 p.hi, .int .u64 p.lo, .int .i64 p.bits] 48 (0, 0))).alloc (.cells #[.bool q.six, .int .u64 q.hi, .int .u64 q.lo, .int .i64 q.bits] 48 (0, 0))).heap[w.heap.size + 1]? = some (.cells #[.bool q.six, .int .u64 q.hi, .int .u64 q.lo, .int .i64 q.bits] 48 (0, 0)) := by
    have := heap_alloc_new (w.alloc (.cells #[.bool p.six, .int .u64 p.hi, .int .u64 p.lo, .int .i64 p.bits] 48 (0, 0))) (.cells #[.bool q.six, .int .u64 q.hi, .int .u64 q.lo, .int .i64 q.bits] 48 (0, 0))
    simp only [Re_size] at this
    exact this
  have HB := Lib.hid (((Below.refl w.heap.size w).alloc (Nat.le_refl _) (.cells #[.bool p.six, .int .u64 p.hi, .int .u64 p.lo, .int .i64 p.bits] 48 (0, 0))).alloc (by simp) (.cells #[.bool q.six, .int .u64 q.hi, .int .u64 q.lo, .int .i64 q.bits] 48 (0, 0)))
  go_enter Tryz.func53, Tryz.ntmps53
  go_upto_region 1 with (fail)
  generalize World.alloc (World.alloc w _) _ = W at b0 bb1 HB ⊢
  generalize w.heap.size + 1 = bq at b0 bb1 ⊢
  have HB2 := Lib.hid HB.out
  have hbq := lt_of_block bb1
  have hbp := lt_of_block b0
  obtain ⟨⟨p0, p1, p2, p3⟩, -⟩ := res4 b0
  obtain ⟨⟨q0, q1, q2, q3⟩, -⟩ := res4 bb1
  clear b0 bb1
  cases b1
  case false =>
    -- WF
    refine wp_region_exact 10 (fun f' => ⟨#[.agg #[Value.bool p.six, Value.int IntKind.u64 p.hi, Value.int IntKind.u64 p.lo, Value.int IntKind.i64 p.bits], .agg #[Value.bool q.six, Value.int IntKind.u64 q.hi, Value.int IntKind.u64 q.lo, Value.int IntKind.i64 q.bits], .pointer (some ⟨w.heap.size, 0, none⟩), .pointer (some ⟨bq, 0, none⟩), .bool false, f' 0, f' 1, f' 2, f' 3, f' 4, f' 5, f' 6, f' 7, f' 8, f' 9], []⟩) (fun i9 => match i9 with | 0 => .agg #[.bool q.six, .int .u64 q.hi, .int .u64 q.lo, .int .i64 q.bits] | 1 => .pointer (some ⟨w.heap.size, 0, none⟩) | 2 => .agg #[.bool p.six, .int .u64 p.hi, .int .u64 p.lo] | 3 => .bool false | 4 => .bool false | 5 => undef | 6 => undef | 7 => undef | 8 => undef | 9 => .bool false | _ => undef) (fun lb w' => Hid (Below W.heap.size W w')) (fun _ => undef) 10 (show Tryz.prog.follows .mixedOrders = true from by kernel_rfl) (by kernel_rfl) ?_ ?_ (Lib.hid (Below.refl _ _).drew)
    · intro i9 op hi9 ho lb f' w' hl hS hd
      have hcase : i9 = 0 ∨ i9 = 1 ∨ i9 = 2 ∨ i9 = 3 ∨ i9 = 4 ∨ i9 = 5 ∨ i9 = 6 ∨ i9 = 7 ∨ i9 = 8 ∨ i9 = 9 := by omega
      rcases hcase with rfl | rfl | rfl | rfl | rfl | rfl | rfl | rfl | rfl | rfl <;> (replace ho := Option.some.inj ho; subst ho)
      · refine OpStep.of rfl ?_
        have q0' : w'.cell? ⟨bq, 0, none⟩ = some (.bool q.six) := (hS.out.cell (p := ⟨bq, _, none⟩) hbq).trans q0
        have q1' : w'.cell? ⟨bq, 1, none⟩ = some (.int .u64 q.hi) := (hS.out.cell (p := ⟨bq, _, none⟩) hbq).trans q1
        have q2' : w'.cell? ⟨bq, 2, none⟩ = some (.int .u64 q.lo) := (hS.out.cell (p := ⟨bq, _, none⟩) hbq).trans q2
        have q3' : w'.cell? ⟨bq, 3, none⟩ = some (.int .i64 q.bits) := (hS.out.cell (p := ⟨bq, _, none⟩) hbq).trans q3
        unfold Oper.wp
        go_simp
        first | exact ⟨by first | (simp [upd]; done) | (simp [upd]; omega), hS⟩ | (simp [upd]; done) | (simp [upd]; omega)
      · refine OpStep.of rfl ?_
        unfold Oper.wp
        go_simp
        first | exact ⟨by first | (simp [upd]; done) | (simp [upd]; omega), hS⟩ | (simp [upd]; done) | (simp [upd]; omega)
      · have e1 : f' 1 = .pointer (some ⟨w.heap.size, 0, none⟩) := (hd ⟨1, .data⟩ (by simp) rfl).2
        refine OpStep.of rfl ?_
        have p0' : w'.cell? ⟨w.heap.size, 0, none⟩ = some (.bool p.six) := (hS.out.cell (p := ⟨w.heap.size, _, none⟩) hbp).trans p0
        have p1' : w'.cell? ⟨w.heap.size, 1, none⟩ = some (.int .u64 p.hi) := (hS.out.cell (p := ⟨w.heap.size, _, none⟩) hbp).trans p1
        have p2' : w'.cell? ⟨w.heap.size, 2, none⟩ = some (.int .u64 p.lo) := (hS.out.cell (p := ⟨w.heap.size, _, none⟩) hbp).trans p2
        unfold Oper.wp
        go_simp
        first | exact ⟨by first | (simp [upd, e1]; done) | (simp [upd, e1]; omega), hS⟩ | (simp [upd, e1]; done) | (simp [upd, e1]; omega)
      · have e0 : f' 0 = .agg #[.bool q.six, .int .u64 q.hi, .int .u64 q.lo, .int .i64 q.bits] := (hd ⟨0, .data⟩ (by simp) rfl).2
        have e2 : f' 2 = .agg #[.bool p.six, .int .u64 p.hi, .int .u64 p.lo] := (hd ⟨2, .data⟩ (by simp) rfl).2
        refine OpStep.of rfl ?_
        unfold Oper.wp
        go_simp
        refine (refHolds2 q (adP p) w' HQ.out HP.out.1).mono ?_
        rintro e w9 ⟨b9, rfl, hq9, hb9⟩
        obtain rfl : b9 = false := bool_same hq9 H1.out
        exact ⟨by simp [upd, e0, e2], Lib.hid (hS.out.trans (hb9.mono hS.out.size))⟩
      · have e3 : f' 3 = .bool false := (hd ⟨3, .data⟩ (by simp) rfl).2
        refine OpStep.of rfl ?_
        unfold Oper.wp
        go_simp
        first | exact ⟨by first | (simp [upd, e3]; done) | (simp [upd, e3]; omega), hS⟩ | (simp [upd, e3]; done) | (simp [upd, e3]; omega)
      · refine OpStep.not (by have e4 : f' 4 = .bool false := (hd ⟨4, .guard⟩ (by simp) rfl).2; simp [Region.wanted, yielded, e4]) ?_
        exact ⟨rfl, hS⟩
      · refine OpStep.not (by have e4 : f' 4 = .bool false := (hd ⟨4, .guard⟩ (by simp) rfl).2; simp [Region.wanted, yielded, e4]) ?_
        exact ⟨rfl, hS⟩
      · refine OpStep.not (by have e4 : f' 4 = .bool false := (hd ⟨4, .guard⟩ (by simp) rfl).2; simp [Region.wanted, yielded, e4]) ?_
        exact ⟨rfl, hS⟩
      · refine OpStep.not (by have e4 : f' 4 = .bool false := (hd ⟨4, .guard⟩ (by simp) rfl).2; simp [Region.wanted, yielded, e4]) ?_
        exact ⟨rfl, hS⟩
      · have e4 : f' 4 = .bool false := (hd ⟨4, .data⟩ (by simp) rfl).2
        have e8 : f' 8 = undef := (hd ⟨8, .data⟩ (by simp) rfl).2
        refine OpStep.of rfl ?_
        unfold Oper.wp
        go_simp
        first | exact ⟨by first | (simp [upd, e4, e8]; done) | (simp [upd, e4, e8]; omega), hS⟩ | (simp [upd, e4, e8]; done) | (simp [upd, e4, e8]; omega)
    · intro op ho lb f' w' hd hS
      have e9 : f' 9 = .bool false := (hd 9 (by omega)).2
      replace ho := Option.some.inj ho
      subst ho
      refine ⟨rfl, ?_⟩
      unfold Oper.wp
      go_simp
      have HB3 := Lib.hid hS.out
      clear hd
      go_wp2_with fail
      go_ret
      exact ⟨false, rfl, ⟨fun h => absurd h (by decide), fun h => absurd (H1.out.2 (HI.out.1 h).1) (by decide)⟩, HB2.out.trans (HB3.out.mono HB2.out.size)⟩
    -- END WF
  case true =>
    -- WT
    refine wp_region_exact 10 (fun f' => ⟨#[.agg #[Value.bool p.six, Value.int IntKind.u64 p.hi, Value.int IntKind.u64 p.lo, Value.int IntKind.i64 p.bits], .agg #[Value.bool q.six, Value.int IntKind.u64 q.hi, Value.int IntKind.u64 q.lo, Value.int IntKind.i64 q.bits], .pointer (some ⟨w.heap.size, 0, none⟩), .pointer (some ⟨bq, 0, none⟩), .bool false, f' 0, f' 1, f' 2, f' 3, f' 4, f' 5, f' 6, f' 7, f' 8, f' 9], []⟩) (fun i9 => match i9 with | 0 => .agg #[.bool q.six, .int .u64 q.hi, .int .u64 q.lo, .int .i64 q.bits] | 1 => .pointer (some ⟨w.heap.size, 0, none⟩) | 2 => .agg #[.bool p.six, .int .u64 p.hi, .int .u64 p.lo] | 3 => .bool true | 4 => .bool true | 5 => .agg #[.bool q.six, .int .u64 q.hi, .int .u64 q.lo, .int .i64 q.bits] | 6 => .agg #[.bool p.six, .int .u64 p.hi, .int .u64 p.lo, .int .i64 p.bits] | 7 => .agg #[.bool p.six, .int .u64 (fil p.hi (m - 64)), .int .u64 (fil p.lo (min 64 m))] | 8 => .bool b2 | 9 => .bool b2 | _ => undef) (fun lb w' => Hid (Below W.heap.size W w')) (fun _ => undef) 10 (show Tryz.prog.follows .mixedOrders = true from by kernel_rfl) (by kernel_rfl) ?_ ?_ (Lib.hid (Below.refl _ _).drew)
    · intro i9 op hi9 ho lb f' w' hl hS hd
      have hcase : i9 = 0 ∨ i9 = 1 ∨ i9 = 2 ∨ i9 = 3 ∨ i9 = 4 ∨ i9 = 5 ∨ i9 = 6 ∨ i9 = 7 ∨ i9 = 8 ∨ i9 = 9 := by omega
      rcases hcase with rfl | rfl | rfl | rfl | rfl | rfl | rfl | rfl | rfl | rfl <;> (replace ho := Option.some.inj ho; subst ho)
      · refine OpStep.of rfl ?_
        have q0' : w'.cell? ⟨bq, 0, none⟩ = some (.bool q.six) := (hS.out.cell (p := ⟨bq, _, none⟩) hbq).trans q0
        have q1' : w'.cell? ⟨bq, 1, none⟩ = some (.int .u64 q.hi) := (hS.out.cell (p := ⟨bq, _, none⟩) hbq).trans q1
        have q2' : w'.cell? ⟨bq, 2, none⟩ = some (.int .u64 q.lo) := (hS.out.cell (p := ⟨bq, _, none⟩) hbq).trans q2
        have q3' : w'.cell? ⟨bq, 3, none⟩ = some (.int .i64 q.bits) := (hS.out.cell (p := ⟨bq, _, none⟩) hbq).trans q3
        unfold Oper.wp
        go_simp
        first | exact ⟨by first | (simp [upd]; done) | (simp [upd]; omega), hS⟩ | (simp [upd]; done) | (simp [upd]; omega)
      · refine OpStep.of rfl ?_
        unfold Oper.wp
        go_simp
        first | exact ⟨by first | (simp [upd]; done) | (simp [upd]; omega), hS⟩ | (simp [upd]; done) | (simp [upd]; omega)
      · have e1 : f' 1 = .pointer (some ⟨w.heap.size, 0, none⟩) := (hd ⟨1, .data⟩ (by simp) rfl).2
        refine OpStep.of rfl ?_
        have p0' : w'.cell? ⟨w.heap.size, 0, none⟩ = some (.bool p.six) := (hS.out.cell (p := ⟨w.heap.size, _, none⟩) hbp).trans p0
        have p1' : w'.cell? ⟨w.heap.size, 1, none⟩ = some (.int .u64 p.hi) := (hS.out.cell (p := ⟨w.heap.size, _, none⟩) hbp).trans p1
        have p2' : w'.cell? ⟨w.heap.size, 2, none⟩ = some (.int .u64 p.lo) := (hS.out.cell (p := ⟨w.heap.size, _, none⟩) hbp).trans p2
        unfold Oper.wp
        go_simp
        first | exact ⟨by first | (simp [upd, e1]; done) | (simp [upd, e1]; omega), hS⟩ | (simp [upd, e1]; done) | (simp [upd, e1]; omega)
      · have e0 : f' 0 = .agg #[.bool q.six, .int .u64 q.hi, .int .u64 q.lo, .int .i64 q.bits] := (hd ⟨0, .data⟩ (by simp) rfl).2
        have e2 : f' 2 = .agg #[.bool p.six, .int .u64 p.hi, .int .u64 p.lo] := (hd ⟨2, .data⟩ (by simp) rfl).2
        refine OpStep.of rfl ?_
        unfold Oper.wp
        go_simp
        refine (refHolds2 q (adP p) w' HQ.out HP.out.1).mono ?_
        rintro e w9 ⟨b9, rfl, hq9, hb9⟩
        obtain rfl : b9 = true := bool_same hq9 H1.out
        exact ⟨by simp [upd, e0, e2], Lib.hid (hS.out.trans (hb9.mono hS.out.size))⟩
      · have e3 : f' 3 = .bool true := (hd ⟨3, .data⟩ (by simp) rfl).2
        refine OpStep.of rfl ?_
        unfold Oper.wp
        go_simp
        first | exact ⟨by first | (simp [upd, e3]; done) | (simp [upd, e3]; omega), hS⟩ | (simp [upd, e3]; done) | (simp [upd, e3]; omega)
      · refine OpStep.of (by have e4 : f' 4 = .bool true := (hd ⟨4, .guard⟩ (by simp) rfl).2; simp [Region.wanted, yielded, e4]) ?_
        have q0' : w'.cell? ⟨bq, 0, none⟩ = some (.bool q.six) := (hS.out.cell (p := ⟨bq, _, none⟩) hbq).trans q0
        have q1' : w'.cell? ⟨bq, 1, none⟩ = some (.int .u64 q.hi) := (hS.out.cell (p := ⟨bq, _, none⟩) hbq).trans q1
        have q2' : w'.cell? ⟨bq, 2, none⟩ = some (.int .u64 q.lo) := (hS.out.cell (p := ⟨bq, _, none⟩) hbq).trans q2
        have q3' : w'.cell? ⟨bq, 3, none⟩ = some (.int .i64 q.bits) := (hS.out.cell (p := ⟨bq, _, none⟩) hbq).trans q3
        unfold Oper.wp
        go_simp
        first | exact ⟨by first | (simp [upd]; done) | (simp [upd]; omega), hS⟩ | (simp [upd]; done) | (simp [upd]; omega)
      · refine OpStep.of (by have e4 : f' 4 = .bool true := (hd ⟨4, .guard⟩ (by simp) rfl).2; simp [Region.wanted, yielded, e4]) ?_
        have p0' : w'.cell? ⟨w.heap.size, 0, none⟩ = some (.bool p.six) := (hS.out.cell (p := ⟨w.heap.size, _, none⟩) hbp).trans p0
        have p1' : w'.cell? ⟨w.heap.size, 1, none⟩ = some (.int .u64 p.hi) := (hS.out.cell (p := ⟨w.heap.size, _, none⟩) hbp).trans p1
        have p2' : w'.cell? ⟨w.heap.size, 2, none⟩ = some (.int .u64 p.lo) := (hS.out.cell (p := ⟨w.heap.size, _, none⟩) hbp).trans p2
        have p3' : w'.cell? ⟨w.heap.size, 3, none⟩ = some (.int .i64 p.bits) := (hS.out.cell (p := ⟨w.heap.size, _, none⟩) hbp).trans p3
        unfold Oper.wp
        go_simp
        first | exact ⟨by first | (simp [upd]; done) | (simp [upd]; omega), hS⟩ | (simp [upd]; done) | (simp [upd]; omega)
      · have e6 : f' 6 = .agg #[.bool p.six, .int .u64 p.hi, .int .u64 p.lo, .int .i64 p.bits] := (hd ⟨6, .data⟩ (by simp) rfl).2
        refine OpStep.of (by have e4 : f' 4 = .bool true := (hd ⟨4, .guard⟩ (by simp) rfl).2; simp [Region.wanted, yielded, e4]) ?_
        unfold Oper.wp
        go_simp
        refine (refLast p m w' HP.out HM.out).mono ?_
        rintro e w9 ⟨rfl, hb9⟩
        exact ⟨by simp [upd, e6], Lib.hid (hS.out.trans (hb9.mono hS.out.size))⟩
      · have e5 : f' 5 = .agg #[.bool q.six, .int .u64 q.hi, .int .u64 q.lo, .int .i64 q.bits] := (hd ⟨5, .data⟩ (by simp) rfl).2
        have e7 : f' 7 = .agg #[.bool p.six, .int .u64 (fil p.hi (m - 64)), .int .u64 (fil p.lo (min 64 m))] := (hd ⟨7, .data⟩ (by simp) rfl).2
        refine OpStep.of (by have e4 : f' 4 = .bool true := (hd ⟨4, .guard⟩ (by simp) rfl).2; simp [Region.wanted, yielded, e4]) ?_
        unfold Oper.wp
        go_simp
        refine (refHolds2 q ⟨p.six, fil p.hi (m - 64), fil p.lo (min 64 m)⟩ w' HQ.out HL.out).mono ?_
        rintro e w9 ⟨b9, rfl, hq9, hb9⟩
        obtain rfl : b9 = b2 := bool_same hq9 H2.out
        exact ⟨by simp [upd, e5, e7], Lib.hid (hS.out.trans (hb9.mono hS.out.size))⟩
      · have e4 : f' 4 = .bool true := (hd ⟨4, .data⟩ (by simp) rfl).2
        have e8 : f' 8 = .bool b2 := (hd ⟨8, .data⟩ (by simp) rfl).2
        refine OpStep.of rfl ?_
        unfold Oper.wp
        go_simp
        first | exact ⟨by first | (simp [upd, e4, e8]; done) | (simp [upd, e4, e8]; omega), hS⟩ | (simp [upd, e4, e8]; done) | (simp [upd, e4, e8]; omega)
    · intro op ho lb f' w' hd hS
      have e9 : f' 9 = .bool b2 := (hd 9 (by omega)).2
      replace ho := Option.some.inj ho
      subst ho
      refine ⟨rfl, ?_⟩
      unfold Oper.wp
      go_simp
      have HB3 := Lib.hid hS.out
      clear hd
      go_wp2_with fail
      go_ret
      exact ⟨b2, rfl, by rw [HI.out, H2.out]; exact ⟨fun h => ⟨H1.out.1 (by trivial), h⟩, fun h => h.2⟩, HB2.out.trans (HB3.out.mono HB2.out.size)⟩
    -- END WT
set_option maxRecDepth 100000 in
set_option maxHeartbeats 4000000 in
theorem refTouch2 (p q : Pf) (w : World) (hp : okP p) (hq : okP q) :
    Calls Tryz.prog 111 #[.agg #[.bool p.six, .int .u64 p.hi, .int .u64 p.lo, .int .i64 p.bits], .agg #[.bool q.six, .int .u64 q.hi, .int .u64 q.lo, .int .i64 q.bits]] w (BoolIs w (¬ offP p q)) := by
  have HI := Lib.hid (touch_two hp hq)
  have HP := Lib.hid hp
  have HQ := Lib.hid hq
  clear hp hq
  have b0 : ((w.alloc (.cells #[.bool p.six, .int .u64 p.hi, .int .u64 p.lo, .int .i64 p.bits] 48 (0, 0))).alloc (.cells #[.bool q.six, .int .u64 q.hi, .int .u64 q.lo, .int .i64 q.bits] 48 (0, 0))).heap[w.heap.size]? = some (.cells #[.bool p.six, .int .u64 p.hi, .int .u64 p.lo, .int .i64 p.bits] 48 (0, 0)) := (heap_alloc_old _ _ (by simp)).trans (heap_alloc_new w _)
  have bb1 : ((w.alloc (.cells #[.bool p.six, .int .u64 p.hi, .int .u64 p.lo, .int .i64 p.bits] 48 (0, 0))).alloc (.cells #[.bool q.six, .int .u64 q.hi, .int .u64 q.lo, .int .i64 q.bits] 48 (0, 0))).heap[w.heap.size + 1]? = some (.cells #[.bool q.six, .int .u64 q.hi, .int .u64 q.lo, .int .i64 q.bits] 48 (0, 0)) := by
    have := heap_alloc_new (w.alloc (.cells #[.bool p.six, .int .u64 p.hi, .int .u64 p.lo, .int .i64 p.bits] 48 (0, 0))) (.cells #[.bool q.six, .int .u64 q.hi, .int .u64 q.lo, .int .i64 q.bits] 48 (0, 0))
    simp only [Re_size] at this
    exact this
  have HB := Lib.hid (((Below.refl w.heap.size w).alloc (Nat.le_refl _) (.cells #[.bool p.six, .int .u64 p.hi, .int .u64 p.lo, .int .i64 p.bits] 48 (0, 0))).alloc (by simp) (.cells #[.bool q.six, .int .u64 q.hi, .int .u64 q.lo, .int .i64 q.bits] 48 (0, 0)))
  go_enter Tryz.func111, Tryz.ntmps111
  go_upto_region 1 with (fail)
  generalize World.alloc (World.alloc w _) _ = W at b0 bb1 HB ⊢
  generalize w.heap.size + 1 = bq at b0 bb1 ⊢
  have HB2 := Lib.hid HB.out
  have BP := Lib.hid b0
  have BQ := Lib.hid bb1
  obtain ⟨⟨p0, p1, p2, p3⟩, -⟩ := res4 b0
  obtain ⟨⟨q0, q1, q2, q3⟩, -⟩ := res4 bb1
  clear b0 bb1 HB
  go_wp2_with fail
  refine (refWithin2 p q W HP.out HQ.out).mono ?_
  rintro e W1 ⟨b1, rfl, h1, hb1⟩
  have H1 := Lib.hid h1
  have BP1 := Lib.hid ((hb1.block _ (lt_of_block BP.out)).trans BP.out)
  have BQ1 := Lib.hid ((hb1.block _ (lt_of_block BQ.out)).trans BQ.out)
  have HB3 := Lib.hid (HB2.out.trans (hb1.mono HB2.out.size))
  obtain ⟨⟨x0, x1, x2, x3⟩, -⟩ := res4 BP1.out
  obtain ⟨⟨y0, y1, y2, y3⟩, -⟩ := res4 BQ1.out
  clear h1 hb1
  cases b1
  · go_wp2_with fail
    refine (refWithin2 q p W1 HQ.out HP.out).mono ?_
    rintro e W2 ⟨b2, rfl, h2, hb2⟩
    have H2 := Lib.hid h2
    have HB4 := Lib.hid (HB3.out.trans (hb2.mono HB3.out.size))
    clear h2 hb2
    go_wp2_with fail
    go_ret
    exact ⟨b2, rfl, by rw [HI.out, H2.out]; exact ⟨.inr, fun h => h.elim (fun h3 => absurd (H1.out.2 h3) (by decide)) id⟩, HB4.out⟩
  · go_wp2_with fail
    go_ret
    exact ⟨true, rfl, by rw [HI.out]; exact ⟨fun _ => .inl (H1.out.1 (by trivial)), fun _ => rfl⟩, HB3.out⟩
set_option maxRecDepth 100000 in
set_option maxHeartbeats 1000000 in
theorem refAddrFault0 (a : Ad) (w : World) (ha : fineA a) : Calls Tryz.prog 172 #[.agg #[.bool a.six, .int .u64 a.hi, .int .u64 a.lo]] w fun e w' => e = .returned (.int .i64 0) ∧ Below w.heap.size w w' := by
  have hB : Below w.heap.size w (w.alloc (.cells #[.bool a.six, .int .u64 a.hi, .int .u64 a.lo] 30 (0, 0))) := (Below.refl _ _).alloc (Nat.le_refl _) _
  have HB := Lib.hid hB
  obtain ⟨six, hi, lo⟩ := a
  obtain ⟨-, -, hf⟩ := ha
  clear hB
  cases six
  · obtain ⟨rfl, h2⟩ := hf rfl
    have hd : decide ((4294967295 : Int) < lo) = false := by simpa using h2
    go_enter Tryz.func172, Tryz.ntmps172
    go_wp2_with fail
    go_ret
    exact ⟨rfl, HB.out⟩
  · go_enter Tryz.func172, Tryz.ntmps172
    go_wp2_with fail
    go_ret
    exact ⟨rfl, HB.out⟩
set_option maxRecDepth 100000 in
set_option maxHeartbeats 4000000 in
theorem refPrefixFault0 (p : Pf) (w : World) (hp : okP p) : Calls Tryz.prog 108 #[.agg #[.bool p.six, .int .u64 p.hi, .int .u64 p.lo, .int .i64 p.bits]] w fun e w' => e = .returned (.int .i64 0) ∧ Below w.heap.size w w' := by
  obtain ⟨hf, hb0, m, hm, hm2, hc1, hc2⟩ := hp
  obtain ⟨up, uq, -⟩ := id hf
  have HF := Lib.hid hf
  have HM := Lib.hid hm
  have C1 := Lib.hid hc1
  have C2 := Lib.hid hc2
  have HB0 := Lib.hid hb0
  have D1 : Hid ((decide (0 ≤ p.bits) && decide (p.bits ≤ lenA p.six)) = true) := Lib.hid (by simp; omega)
  have b0 := heap_alloc_new w (.cells #[.bool p.six, .int .u64 p.hi, .int .u64 p.lo, .int .i64 p.bits] 48 (0, 0))
  have HB : Hid (Below w.heap.size w (w.alloc (.cells #[.bool p.six, .int .u64 p.hi, .int .u64 p.lo, .int .i64 p.bits] 48 (0, 0)))) := Lib.hid ((Below.refl _ _).alloc (Nat.le_refl _) _)
  clear hf hm hc1 hc2
  go_enter Tryz.func108, Tryz.ntmps108
  go_upto_region 1 with (fail)
  generalize World.alloc w _ = W at b0 HB ⊢
  have BP := Lib.hid b0
  obtain ⟨⟨p0, p1, p2, p3⟩, -⟩ := res4 b0
  clear b0
  go_wp2_with fail
  refine (refAddrFault0 (adP p) W HF.out).mono ?_
  rintro e W1 ⟨rfl, hb1⟩
  have BP1 := Lib.hid ((hb1.block _ (lt_of_block BP.out)).trans BP.out)
  have HB1 := Lib.hid (HB.out.trans (hb1.mono HB.out.size))
  clear p0 p1 p2 p3 hb1 BP HB
  obtain ⟨⟨p0, p1, p2, p3⟩, -⟩ := res4 BP1.out
  have hbp := lt_of_block BP1.out
  go_upto_region 4 with (fail)
  -- PA
  refine wp_region_exact 6 (fun f' => ⟨#[.agg #[Value.bool p.six, Value.int IntKind.u64 p.hi, Value.int IntKind.u64 p.lo, Value.int IntKind.i64 p.bits], .pointer (some ⟨w.heap.size, 0, none⟩), .int .i64 0, .int .i64 0, .pointer (some ⟨w.heap.size, 0, none⟩), .agg #[Value.bool p.six, Value.int IntKind.u64 p.hi, Value.int IntKind.u64 p.lo], .int .i64 0, .int .i64 0, .bool false, undef, f' 0, f' 1, f' 2, f' 3, f' 4, f' 5, undef, undef, undef, undef, undef, undef, undef, undef, undef, undef], []⟩) (fun i9 => match i9 with | 0 => .pointer (some ⟨w.heap.size, 3, none⟩) | 1 => .int .i64 p.bits | 2 => .pointer (some ⟨w.heap.size, 0, none⟩) | 3 => .agg #[.bool p.six, .int .u64 p.hi, .int .u64 p.lo] | 4 => .int .i64 (lenA p.six) | 5 => .bool true | _ => undef) (fun lb w' => Hid (Below W1.heap.size W1 w')) (fun _ => undef) 10 (show Tryz.prog.follows .mixedOrders = true from by kernel_rfl) (by kernel_rfl) ?_ ?_ (Lib.hid (Below.refl _ _).drew)
  · intro i9 op hi9 ho lb f' w' hl hS hd
    have hcase : i9 = 0 ∨ i9 = 1 ∨ i9 = 2 ∨ i9 = 3 ∨ i9 = 4 ∨ i9 = 5 := by omega
    rcases hcase with rfl | rfl | rfl | rfl | rfl | rfl <;> (replace ho := Option.some.inj ho; subst ho)
    · refine OpStep.of rfl ?_
      unfold Oper.wp
      go_simp
      first | exact ⟨by first | (simp [upd]; done) | (simp [upd]; omega), hS⟩ | (simp [upd]; done) | (simp [upd]; omega)
    · have e0 : f' 0 = .pointer (some ⟨w.heap.size, 3, none⟩) := (hd ⟨0, .data⟩ (by simp) rfl).2
      refine OpStep.of rfl ?_
      have p3' : w'.cell? ⟨w.heap.size, 3, none⟩ = some (.int .i64 p.bits) := (hS.out.cell (p := ⟨w.heap.size, _, none⟩) hbp).trans p3
      unfold Oper.wp
      go_simp
      first | exact ⟨by first | (simp [upd, e0]; done) | (simp [upd, e0]; omega), hS⟩ | (simp [upd, e0]; done) | (simp [upd, e0]; omega)
    · refine OpStep.of rfl ?_
      unfold Oper.wp
      go_simp
      first | exact ⟨by first | (simp [upd]; done) | (simp [upd]; omega), hS⟩ | (simp [upd]; done) | (simp [upd]; omega)
    · have e2 : f' 2 = .pointer (some ⟨w.heap.size, 0, none⟩) := (hd ⟨2, .data⟩ (by simp) rfl).2
      refine OpStep.of rfl ?_
      have p0' : w'.cell? ⟨w.heap.size, 0, none⟩ = some (.bool p.six) := (hS.out.cell (p := ⟨w.heap.size, _, none⟩) hbp).trans p0
      have p1' : w'.cell? ⟨w.heap.size, 1, none⟩ = some (.int .u64 p.hi) := (hS.out.cell (p := ⟨w.heap.size, _, none⟩) hbp).trans p1
      have p2' : w'.cell? ⟨w.heap.size, 2, none⟩ = some (.int .u64 p.lo) := (hS.out.cell (p := ⟨w.heap.size, _, none⟩) hbp).trans p2
      unfold Oper.wp
      go_simp
      first | exact ⟨by first | (simp [upd, e2]; done) | (simp [upd, e2]; omega), hS⟩ | (simp [upd, e2]; done) | (simp [upd, e2]; omega)
    · have e3 : f' 3 = .agg #[.bool p.six, .int .u64 p.hi, .int .u64 p.lo] := (hd ⟨3, .data⟩ (by simp) rfl).2
      refine OpStep.of rfl ?_
      unfold Oper.wp
      go_simp
      refine (refLength_any p.six p.hi p.lo w').mono ?_
      rintro e w9 ⟨rfl, hb9⟩
      exact ⟨by simp [upd, e3], Lib.hid (hS.out.trans (hb9.mono hS.out.size))⟩
    · have e1 : f' 1 = .int .i64 p.bits := (hd ⟨1, .data⟩ (by simp) rfl).2
      have e4 : f' 4 = .int .i64 (lenA p.six) := (hd ⟨4, .data⟩ (by simp) rfl).2
      refine OpStep.of rfl ?_
      unfold Oper.wp
      go_simp
      refine (in2_any _ _ _ w').mono ?_
      rintro e w9 ⟨rfl, rfl⟩
      have hb9 : Below w'.heap.size w' w' := Below.refl _ _
      exact ⟨by simp [upd, e1, e4, D1.out], Lib.hid (hS.out.trans (hb9.mono hS.out.size))⟩
  · intro op ho lb f' w' hd hS
    have e5 : f' 5 = .bool true := (hd 5 (by omega)).2
    replace ho := Option.some.inj ho
    subst ho
    refine ⟨rfl, ?_⟩
    unfold Oper.wp
    go_simp
    have BP2 := Lib.hid ((hS.out.block _ hbp).trans BP1.out)
    have HB2 := Lib.hid (HB1.out.trans (hS.out.mono HB1.out.size))
    obtain ⟨W2, rfl⟩ : ∃ W2, W2 = w' := ⟨_, rfl⟩
    clear p0 p1 p2 p3 hd hS BP1 HB1 hbp
    obtain ⟨⟨p0, p1, p2, p3⟩, -⟩ := res4 BP2.out
    have hbp := lt_of_block BP2.out
    have heqw : ∀ V, (Op.equalIn 10000 169 (.agg #[.int .i64 (wd p.six p.hi p.lo 0), .int .i64 (wd p.six p.hi p.lo 1), .int .i64 (wd p.six p.hi p.lo 2), .int .i64 (wd p.six p.hi p.lo 3), .int .i64 (wd p.six p.hi p.lo 4), .int .i64 (wd p.six p.hi p.lo 5), .int .i64 (wd p.six p.hi p.lo 6), .int .i64 (wd p.six p.hi p.lo 7), .int .i64 (wd p.six p.hi p.lo 8)]) (.agg #[.int .i64 (wd p.six p.hi p.lo 0), .int .i64 (wd p.six p.hi p.lo 1), .int .i64 (wd p.six p.hi p.lo 2), .int .i64 (wd p.six p.hi p.lo 3), .int .i64 (wd p.six p.hi p.lo 4), .int .i64 (wd p.six p.hi p.lo 5), .int .i64 (wd p.six p.hi p.lo 6), .int .i64 (wd p.six p.hi p.lo 7), .int .i64 (wd p.six p.hi p.lo 8)])).run Tryz.prog V = .ok true V := fun V => (run_eq_wide (wd p.six p.hi p.lo) (wd p.six p.hi p.lo) V).trans (by simp [eqN])
    have hgd := guard_wide
    go_upto_region 6 with (fail)
    refine wp_region_exact 8 (fun f' => ⟨#[.agg #[Value.bool p.six, Value.int IntKind.u64 p.hi, Value.int IntKind.u64 p.lo, Value.int IntKind.i64 p.bits], .pointer (some ⟨w.heap.size, 0, none⟩), .int .i64 0, .int .i64 0, .pointer (some ⟨w.heap.size, 0, none⟩), .agg #[Value.bool p.six, Value.int IntKind.u64 p.hi, Value.int IntKind.u64 p.lo], .int .i64 0, .int .i64 0, .bool false, undef, .pointer (some ⟨w.heap.size, 3, none⟩), .int .i64 p.bits, .pointer (some ⟨w.heap.size, 0, none⟩), .agg #[Value.bool p.six, Value.int IntKind.u64 p.hi, Value.int IntKind.u64 p.lo], .int .i64 (lenA p.six), .bool true, .bool false, f' 0, f' 1, f' 2, f' 3, f' 4, f' 5, f' 6, f' 7, undef], []⟩) (fun i9 => match i9 with | 0 => .pointer (some ⟨w.heap.size, 0, none⟩) | 1 => .agg #[.bool p.six, .int .u64 p.hi, .int .u64 p.lo] | 2 => .pointer (some ⟨w.heap.size, 3, none⟩) | 3 => .int .i64 p.bits | 4 => .agg #[.int .i64 (wd p.six p.hi p.lo 0), .int .i64 (wd p.six p.hi p.lo 1), .int .i64 (wd p.six p.hi p.lo 2), .int .i64 (wd p.six p.hi p.lo 3), .int .i64 (wd p.six p.hi p.lo 4), .int .i64 (wd p.six p.hi p.lo 5), .int .i64 (wd p.six p.hi p.lo 6), .int .i64 (wd p.six p.hi p.lo 7), .int .i64 (wd p.six p.hi p.lo 8)] | 5 => .pointer (some ⟨w.heap.size, 0, none⟩) | 6 => .agg #[.bool p.six, .int .u64 p.hi, .int .u64 p.lo] | 7 => .agg #[.int .i64 (wd p.six p.hi p.lo 0), .int .i64 (wd p.six p.hi p.lo 1), .int .i64 (wd p.six p.hi p.lo 2), .int .i64 (wd p.six p.hi p.lo 3), .int .i64 (wd p.six p.hi p.lo 4), .int .i64 (wd p.six p.hi p.lo 5), .int .i64 (wd p.six p.hi p.lo 6), .int .i64 (wd p.six p.hi p.lo 7), .int .i64 (wd p.six p.hi p.lo 8)] | _ => undef) (fun lb w' => Hid (Below W2.heap.size W2 w')) (fun _ => undef) 10 (show Tryz.prog.follows .mixedOrders = true from by kernel_rfl) (by kernel_rfl) ?_ ?_ (Lib.hid (Below.refl _ _).drew)
    · intro i9 op hi9 ho lb f' w' hl hS hd
      have hcase : i9 = 0 ∨ i9 = 1 ∨ i9 = 2 ∨ i9 = 3 ∨ i9 = 4 ∨ i9 = 5 ∨ i9 = 6 ∨ i9 = 7 := by omega
      rcases hcase with rfl | rfl | rfl | rfl | rfl | rfl | rfl | rfl <;> (replace ho := Option.some.inj ho; subst ho)
      · refine OpStep.of rfl ?_
        unfold Oper.wp
        go_simp
        first | exact ⟨by first | (simp [upd]; done) | (simp [upd]; omega), hS⟩ | (simp [upd]; done) | (simp [upd]; omega)
      · have e0 : f' 0 = .pointer (some ⟨w.heap.size, 0, none⟩) := (hd ⟨0, .data⟩ (by simp) rfl).2
        refine OpStep.of rfl ?_
        have p0' : w'.cell? ⟨w.heap.size, 0, none⟩ = some (.bool p.six) := (hS.out.cell (p := ⟨w.heap.size, _, none⟩) hbp).trans p0
        have p1' : w'.cell? ⟨w.heap.size, 1, none⟩ = some (.int .u64 p.hi) := (hS.out.cell (p := ⟨w.heap.size, _, none⟩) hbp).trans p1
        have p2' : w'.cell? ⟨w.heap.size, 2, none⟩ = some (.int .u64 p.lo) := (hS.out.cell (p := ⟨w.heap.size, _, none⟩) hbp).trans p2
        unfold Oper.wp
        go_simp
        first | exact ⟨by first | (simp [upd, e0]; done) | (simp [upd, e0]; omega), hS⟩ | (simp [upd, e0]; done) | (simp [upd, e0]; omega)
      · refine OpStep.of rfl ?_
        unfold Oper.wp
        go_simp
        first | exact ⟨by first | (simp [upd]; done) | (simp [upd]; omega), hS⟩ | (simp [upd]; done) | (simp [upd]; omega)
      · have e2 : f' 2 = .pointer (some ⟨w.heap.size, 3, none⟩) := (hd ⟨2, .data⟩ (by simp) rfl).2
        refine OpStep.of rfl ?_
        have p3' : w'.cell? ⟨w.heap.size, 3, none⟩ = some (.int .i64 p.bits) := (hS.out.cell (p := ⟨w.heap.size, _, none⟩) hbp).trans p3
        unfold Oper.wp
        go_simp
        first | exact ⟨by first | (simp [upd, e2]; done) | (simp [upd, e2]; omega), hS⟩ | (simp [upd, e2]; done) | (simp [upd, e2]; omega)
      · have e1 : f' 1 = .agg #[.bool p.six, .int .u64 p.hi, .int .u64 p.lo] := (hd ⟨1, .data⟩ (by simp) rfl).2
        have e3 : f' 3 = .int .i64 p.bits := (hd ⟨3, .data⟩ (by simp) rfl).2
        refine OpStep.of rfl ?_
        unfold Oper.wp
        go_simp
        refine (firstOf_wd p.six p.hi p.lo p.bits w' up uq m HM.out hm2 HB0.out).mono ?_
        rintro e w9 ⟨rfl, hb9⟩
        exact ⟨by simp [upd, e1, e3, C1.out, C2.out], Lib.hid (hS.out.trans (hb9.mono hS.out.size))⟩
      · refine OpStep.of rfl ?_
        unfold Oper.wp
        go_simp
        first | exact ⟨by first | (simp [upd]; done) | (simp [upd]; omega), hS⟩ | (simp [upd]; done) | (simp [upd]; omega)
      · have e5 : f' 5 = .pointer (some ⟨w.heap.size, 0, none⟩) := (hd ⟨5, .data⟩ (by simp) rfl).2
        refine OpStep.of rfl ?_
        have p0' : w'.cell? ⟨w.heap.size, 0, none⟩ = some (.bool p.six) := (hS.out.cell (p := ⟨w.heap.size, _, none⟩) hbp).trans p0
        have p1' : w'.cell? ⟨w.heap.size, 1, none⟩ = some (.int .u64 p.hi) := (hS.out.cell (p := ⟨w.heap.size, _, none⟩) hbp).trans p1
        have p2' : w'.cell? ⟨w.heap.size, 2, none⟩ = some (.int .u64 p.lo) := (hS.out.cell (p := ⟨w.heap.size, _, none⟩) hbp).trans p2
        unfold Oper.wp
        go_simp
        first | exact ⟨by first | (simp [upd, e5]; done) | (simp [upd, e5]; omega), hS⟩ | (simp [upd, e5]; done) | (simp [upd, e5]; omega)
      · have e6 : f' 6 = .agg #[.bool p.six, .int .u64 p.hi, .int .u64 p.lo] := (hd ⟨6, .data⟩ (by simp) rfl).2
        refine OpStep.of rfl ?_
        unfold Oper.wp
        go_simp
        refine (of_any p.six p.hi p.lo w' up uq).mono ?_
        rintro e w9 ⟨rfl, hb9⟩
        exact ⟨by simp [upd, e6, wideV, arr9], Lib.hid (hS.out.trans (hb9.mono hS.out.size))⟩
    · intro op ho lb f' w' hd hS
      have e4 : f' 4 = .agg #[.int .i64 (wd p.six p.hi p.lo 0), .int .i64 (wd p.six p.hi p.lo 1), .int .i64 (wd p.six p.hi p.lo 2), .int .i64 (wd p.six p.hi p.lo 3), .int .i64 (wd p.six p.hi p.lo 4), .int .i64 (wd p.six p.hi p.lo 5), .int .i64 (wd p.six p.hi p.lo 6), .int .i64 (wd p.six p.hi p.lo 7), .int .i64 (wd p.six p.hi p.lo 8)] := (hd 4 (by omega)).2
      have e7 : f' 7 = .agg #[.int .i64 (wd p.six p.hi p.lo 0), .int .i64 (wd p.six p.hi p.lo 1), .int .i64 (wd p.six p.hi p.lo 2), .int .i64 (wd p.six p.hi p.lo 3), .int .i64 (wd p.six p.hi p.lo 4), .int .i64 (wd p.six p.hi p.lo 5), .int .i64 (wd p.six p.hi p.lo 6), .int .i64 (wd p.six p.hi p.lo 7), .int .i64 (wd p.six p.hi p.lo 8)] := (hd 7 (by omega)).2
      replace ho := Option.some.inj ho
      subst ho
      refine ⟨rfl, ?_⟩
      unfold Oper.wp
      go_simp
      have HB3 := Lib.hid hS.out
      clear hd
      go_wp2_with fail
      go_ret
      exact ⟨rfl, HB2.out.trans (HB3.out.mono HB2.out.size)⟩
  -- END PA
end Go.Proofs.YtajifionclpphaaGreatDoor
