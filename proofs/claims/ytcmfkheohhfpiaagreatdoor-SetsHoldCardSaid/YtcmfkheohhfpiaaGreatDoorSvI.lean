/- slices.BinarySearchFunc over ranges; Spans.Has. Spans.Has. -/
import Derived.Test.YtcmfkheohhfpiaaGreatDoorSvG
namespace Go.Proofs.YtcmfkheohhfpiaaGreatDoor
open Go.RowKit Go.Hw
set_option maxRecDepth 100000 in
set_option maxHeartbeats 1000000 in
theorem hasFn_any (r : Rg) (x : Ad) (w : World) :
    Calls Tryz.prog 55 #[.agg #[.bool r.six, .int .u64 r.hi, .int .u64 r.lo, .bool r.six2, .int .u64 r.hi2, .int .u64 r.lo2], .agg #[.bool x.six, .int .u64 x.hi, .int .u64 x.lo]] w fun e w' => e = .returned (.int .i64 (spanC r.six r.hi r.lo x.six x.hi x.lo)) ∧ Below w.heap.size w w' := by
  have HB := Lib.hid (((Below.refl w.heap.size w).alloc (Nat.le_refl _) (.cells #[.bool r.six, .int .u64 r.hi, .int .u64 r.lo, .bool r.six2, .int .u64 r.hi2, .int .u64 r.lo2] 43 (0, 0))).alloc (by simp) (addrBox x.six x.hi x.lo))
  have hcm := fun W => spanCompare_any r.six r.hi r.lo x.six x.hi x.lo W
  unfold addrBox at HB
  go_enter Tryz.func55, Tryz.ntmps55
  go_wp2_with fail
  refine (hcm _).mono ?_
  rintro e W2 ⟨rfl, hb2⟩
  have HB2 := Lib.hid (HB.out.trans (hb2.mono HB.out.size))
  clear hb2 hcm HB
  go_wp2_with fail
  go_ret
  exact ⟨rfl, HB2.out⟩
/-- What a binary search says. -/
structure BsI (L : List Rg) (x : Ad) (i j : Nat) : Prop where
  le : i ≤ j
  hi : j ≤ L.length
  lo : ∀ t, t < i → keyA (fiR (L.getD t noRg)) < keyA x
  up : ∀ t, j ≤ t → t < L.length → keyA x ≤ keyA (fiR (L.getD t noRg))
set_option maxRecDepth 100000 in
set_option maxHeartbeats 4000000 in
theorem binary_any (A : Option Addr) (ca : Nat) (L : List Rg) (S : List Sn) (x : Ad) (w : World) (hA : rgAt w A L) (hL : RgsIs L S) (hx : fineA x) (h1 : L.length ≤ 100000) :
    Calls Tryz.prog 54 #[.slice A L.length ca, .agg #[.bool x.six, .int .u64 x.hi, .int .u64 x.lo], .func (.func 55) #[] #[]] w fun e w' => ∃ (i : Nat) (f : Bool), e = .returned (.tuple #[.int .i64 i, .bool f]) ∧ BsI L x i i ∧ (f = true ↔ i < L.length ∧ keyA (fiR (L.getD i noRg)) = keyA x) ∧ Below w.heap.size w w' := by
  have HA := Lib.hid hA
  have HL := Lib.hid hL
  have HX := Lib.hid hx
  have HB0 := Lib.hid ((Below.refl w.heap.size w).alloc (Nat.le_refl _) (.cells #[.bool x.six, .int .u64 x.hi, .int .u64 x.lo] 30 (0, 0)))
  have HX0 := Lib.hid (heap_alloc_new w (.cells #[.bool x.six, .int .u64 x.hi, .int .u64 x.lo] 30 (0, 0)))
  have HSRT : Hid (∀ a b, a < b → b < L.length → keyA (fiR (L.getD a noRg)) < keyA (fiR (L.getD b noRg))) := Lib.hid (fun a b hab hb => by
    have h2 := HL.out.norm.gap
    rw [← HL.out.map, List.pairwise_map] at h2
    have h3 := List.pairwise_iff_getElem.1 h2 a b (by omega) hb hab
    have h4 := (HL.out.ok (L[a]'(by omega)) (List.getElem_mem _)).le
    rw [List.getD_eq_getElem?_getD, List.getElem?_eq_getElem (show a < L.length by omega), List.getD_eq_getElem?_getD, List.getElem?_eq_getElem hb]
    simp only [Option.getD_some]
    have h5 : (rgS (L[a]'(by omega))).2 = keyA (laR (L[a]'(by omega))) + 1 := rfl
    have h6 : (rgS (L[b]'hb)).1 = keyA (fiR (L[b]'hb)) := rfl
    omega)
  clear hA hL hx
  go_enter Tryz.func54, Tryz.ntmps54
  go_wp2_with fail
  generalize World.alloc w _ = W0 at *
  have HBS : Hid (BsI L x 0 L.length) := Lib.hid ⟨Nat.zero_le _, Nat.le_refl _, fun t h => by omega, fun t h h2 => by omega⟩
  go_loopw [9, 10, 11] (fun v9 v10 _ wr => ∃ i j : Nat, v9 = .int .i64 i ∧ v10 = .int .i64 j ∧ BsI L x i j ∧ Below w.heap.size w wr ∧ wr.heap[w.heap.size]? = some (.cells #[.bool x.six, .int .u64 x.hi, .int .u64 x.lo] 30 (0, 0))) (fun v9 v10 _ _ => (intOf v10).toNat - (intOf v9).toNat)
  case atStart => exact ⟨0, L.length, rfl, rfl, HBS.out, HB0.out, HX0.out⟩
  case round =>
    obtain ⟨i, j, rfl, rfl, hbs, hb, hxw⟩ := hrel
    have HBI := Lib.hid hbs
    have HBW := Lib.hid hb
    have HXW := Lib.hid hxw
    have hij := hbs.le
    have hjn := hbs.hi
    have hbx := lt_of_block hxw
    obtain ⟨x0, x1, x2, -⟩ := res3 hxw
    clear hbs HB0 HX0 HBS hxw hb
    by_cases hlt : i < j
    · have hd : decide ((i : Int) < (j : Int)) = true := by simp; omega
      obtain ⟨h, hh⟩ : ∃ h : Nat, (i + j) / 2 = h := ⟨_, rfl⟩
      have hib : i ≤ h ∧ h < j := by omega
      have s0 : IntKind.i64.wrap ((i : Int) + (j : Int)) = (i : Int) + (j : Int) := IntWalk.i64_in _ (by omega)
      have s1 : IntKind.u64.wrap ((i : Int) + (j : Int)) = (i : Int) + (j : Int) := IntWalk.u64_in _ (by omega)
      have s2 : ((i : Int) + (j : Int)) / 2 = (h : Int) := by omega
      have s3 : IntKind.i64.wrap (h : Int) = (h : Int) := IntWalk.i64_in _ (by omega)
      have s4 : (h : Int) < (L.length : Int) := by omega
      obtain ⟨gA, oA, rfl, hgA, hca⟩ := (HA.out.below HBW.out) h (by omega)
      obtain ⟨c0, c1, c2, c3, c4, c5⟩ := rg_cells hca
      have hcl := fun W => hasFn_any (L.getD h noRg) x W
      have hkc := (spanC_key (HL.out.ok (L.getD h noRg) (rw_mem (by omega))).f HX.out).1
      have hkc1 : spanC (L.getD h noRg).six (L.getD h noRg).hi (L.getD h noRg).lo x.six x.hi x.lo < 0 ↔ keyA (fiR (L.getD h noRg)) < keyA x := hkc
      generalize hre : L.getD h noRg = r at *
      generalize spanC r.six r.hi r.lo x.six x.hi x.lo = c at *
      obtain ⟨cb, hcb⟩ : ∃ cb, decide (c < 0) = cb := ⟨_, rfl⟩
      have HCB : Hid (cb = decide (keyA (fiR r) < keyA x)) := Lib.hid (by rw [← hcb, decide_eq_decide, hkc1])
      have HRE := Lib.hid hre
      have HCH := Lib.hid hcb
      clear hca hkc hkc1 hre hcb hh
      go_upto_region 5 with (fail)
      go_cut [31] from 24 to 31 (fun v31 wc => v31 = .bool cb ∧ Below wr.heap.size wr wc)
      case first =>
        -- R5
        refine wp_region_exact 7 (fun f' => ⟨#[.slice (some ⟨gA, oA, none⟩) L.length ca, .agg #[Value.bool x.six, Value.int IntKind.u64 x.hi, Value.int IntKind.u64 x.lo], .func (Fn.func 55) #[] #[], undef, .pointer (some ⟨w.heap.size, 0, none⟩), undef, .int .i64 0, .bool false, .int .i64 L.length, .int .i64 i, .int .i64 j, .int .i64 h, .slice (some ⟨gA, oA, none⟩) L.length ca, .int .i64 L.length, .int .i64 L.length, .int .i64 i, .int .i64 j, .bool true, .int .i64 i, .int .i64 j, .int .i64 (↑i + ↑j), .int .u64 (↑i + ↑j), .int .u64 h, .int .i64 h, f' 0, f' 1, f' 2, f' 3, f' 4, f' 5, f' 6, u31, u32, u33, u34, undef, undef, undef, undef, undef, undef, undef, undef, undef, undef, undef, undef, undef, undef], []⟩) (fun i9 => match i9 with | 0 => .func (Fn.func 55) #[] #[] | 1 => .slice (some ⟨gA, oA, none⟩) L.length ca | 2 => .int .i64 h | 3 => .pointer (some ⟨gA, oA + h * 6, none⟩) | 4 => .agg #[.bool r.six, .int .u64 r.hi, .int .u64 r.lo, .bool r.six2, .int .u64 r.hi2, .int .u64 r.lo2] | 5 => .agg #[.bool x.six, .int .u64 x.hi, .int .u64 x.lo] | 6 => .int .i64 c | _ => undef) (fun lb w' => Hid (Below wr.heap.size wr w')) (fun i9 => match i9 with | 0 => u24 | 1 => u25 | 2 => u26 | 3 => u27 | 4 => u28 | 5 => u29 | 6 => u30 | _ => undef) 24 (show Tryz.prog.follows .mixedOrders = true from by kernel_rfl) (by kernel_rfl) ?_ ?_ (Lib.hid (Below.refl _ _).drew)
        · intro i9 op hi9 ho lb f' w' hl hS hd
          have hcase : i9 = 0 ∨ i9 = 1 ∨ i9 = 2 ∨ i9 = 3 ∨ i9 = 4 ∨ i9 = 5 ∨ i9 = 6 := by omega
          rcases hcase with rfl | rfl | rfl | rfl | rfl | rfl | rfl <;> (replace ho := Option.some.inj ho; subst ho)
          · refine OpStep.of rfl ?_
            unfold Oper.wp
            go_simp
            first | exact ⟨by first | (simp [upd]; done) | (simp [upd]; omega), hS⟩ | (simp [upd]; done) | (simp [upd]; omega)
          · refine OpStep.of rfl ?_
            unfold Oper.wp
            go_simp
            first | exact ⟨by first | (simp [upd]; done) | (simp [upd]; omega), hS⟩ | (simp [upd]; done) | (simp [upd]; omega)
          · refine OpStep.of rfl ?_
            unfold Oper.wp
            go_simp
            first | exact ⟨by first | (simp [upd]; done) | (simp [upd]; omega), hS⟩ | (simp [upd]; done) | (simp [upd]; omega)
          · have e1 : f' 1 = .slice (some ⟨gA, oA, none⟩) L.length ca := (hd ⟨1, .data⟩ (by simp) rfl).2
            have e2 : f' 2 = .int .i64 h := (hd ⟨2, .data⟩ (by simp) rfl).2
            refine OpStep.of rfl ?_
            unfold Oper.wp
            go_simp
            first | exact ⟨by first | (simp [upd, e1, e2]; done) | (simp [upd, e1, e2]; omega), hS⟩ | (simp [upd, e1, e2]; done) | (simp [upd, e1, e2]; omega)
          · have e3 : f' 3 = .pointer (some ⟨gA, oA + h * 6, none⟩) := (hd ⟨3, .data⟩ (by simp) rfl).2
            refine OpStep.of rfl ?_
            have c0' : w'.cell? ⟨gA, oA + h * 6, none⟩ = some (.bool r.six) := (hS.out.cell (p := ⟨gA, _, none⟩) hgA).trans c0
            have c1' : w'.cell? ⟨gA, oA + h * 6 + 1, none⟩ = some (.int .u64 r.hi) := (hS.out.cell (p := ⟨gA, _, none⟩) hgA).trans c1
            have c2' : w'.cell? ⟨gA, oA + h * 6 + 2, none⟩ = some (.int .u64 r.lo) := (hS.out.cell (p := ⟨gA, _, none⟩) hgA).trans c2
            have c3' : w'.cell? ⟨gA, oA + h * 6 + 3, none⟩ = some (.bool r.six2) := (hS.out.cell (p := ⟨gA, _, none⟩) hgA).trans c3
            have c4' : w'.cell? ⟨gA, oA + h * 6 + 4, none⟩ = some (.int .u64 r.hi2) := (hS.out.cell (p := ⟨gA, _, none⟩) hgA).trans c4
            have c5' : w'.cell? ⟨gA, oA + h * 6 + 5, none⟩ = some (.int .u64 r.lo2) := (hS.out.cell (p := ⟨gA, _, none⟩) hgA).trans c5
            unfold Oper.wp
            go_simp
            first | exact ⟨by first | (simp [upd, e3]; done) | (simp [upd, e3]; omega), hS⟩ | (simp [upd, e3]; done) | (simp [upd, e3]; omega)
          · refine OpStep.of rfl ?_
            have x0' : w'.cell? ⟨w.heap.size, 0, none⟩ = some (.bool x.six) := (hS.out.cell (p := ⟨w.heap.size, _, none⟩) hbx).trans x0
            have x1' : w'.cell? ⟨w.heap.size, 1, none⟩ = some (.int .u64 x.hi) := (hS.out.cell (p := ⟨w.heap.size, _, none⟩) hbx).trans x1
            have x2' : w'.cell? ⟨w.heap.size, 2, none⟩ = some (.int .u64 x.lo) := (hS.out.cell (p := ⟨w.heap.size, _, none⟩) hbx).trans x2
            unfold Oper.wp
            go_simp
            first | exact ⟨by first | (simp [upd]; done) | (simp [upd]; omega), hS⟩ | (simp [upd]; done) | (simp [upd]; omega)
          · have e0 : f' 0 = .func (Fn.func 55) #[] #[] := (hd ⟨0, .data⟩ (by simp) rfl).2
            have e4 : f' 4 = .agg #[.bool r.six, .int .u64 r.hi, .int .u64 r.lo, .bool r.six2, .int .u64 r.hi2, .int .u64 r.lo2] := (hd ⟨4, .data⟩ (by simp) rfl).2
            have e5 : f' 5 = .agg #[.bool x.six, .int .u64 x.hi, .int .u64 x.lo] := (hd ⟨5, .data⟩ (by simp) rfl).2
            refine OpStep.of rfl ?_
            unfold Oper.wp
            go_simp
            refine (hcl w').mono ?_
            rintro e w9 ⟨rfl, hb9⟩
            exact ⟨by simp [upd, e0, e4, e5], Lib.hid (hS.out.trans (hb9.mono hS.out.size))⟩
        · intro op ho lb f' w' hd hS
          have e6 : f' 6 = .int .i64 c := (hd 6 (by omega)).2
          replace ho := Option.some.inj ho
          subst ho
          refine ⟨rfl, ?_⟩
          unfold Oper.wp
          go_simp
          first | (go_step; go_step; go_meet) | (go_step; go_meet) | go_meet | skip
          exact ⟨by rw [HCH.out], hS.out⟩
        -- END R5
      case rest =>
      obtain ⟨rfl, hbc⟩ := hcut
      have HB9 := Lib.hid (HBW.out.trans (hbc.mono HBW.out.size))
      have HX9 := Lib.hid ((hbc.block _ hbx).trans HXW.out)
      clear hbc c0 c1 c2 c3 c4 c5 x0 x1 x2
      cases cb
      · have HN : Hid (BsI L x i h) := Lib.hid ⟨hib.1, by omega, HBI.out.lo, fun t ht htl => by
          have h9 : ¬ keyA (fiR r) < keyA x := of_decide_eq_false HCB.out.symm
          rcases Nat.lt_or_ge h t with h8 | h8
          · have := HSRT.out h t h8 htl
            rw [HRE.out] at this
            omega
          · have : t = h := by omega
            rw [this, HRE.out]
            omega⟩
        go_wp2_with fail
        go_roundw
        case rel => exact ⟨i, h, rfl, rfl, HN.out, HB9.out, HX9.out⟩
        case measure => simp [intOf]; omega
      · have hw2 : IntKind.i64.wrap ((h : Int) + 1) = ((h + 1 : Nat) : Int) := (IntWalk.i64_in _ (by omega)).trans (by omega)
        have HN : Hid (BsI L x (h + 1) j) := Lib.hid ⟨by omega, by omega, fun t ht => by
          have h9 : keyA (fiR r) < keyA x := of_decide_eq_true HCB.out.symm
          rcases Nat.lt_or_ge t h with h8 | h8
          · have := HSRT.out t h h8 (by omega)
            rw [HRE.out] at this
            omega
          · have : t = h := by omega
            rw [this, HRE.out]
            exact h9, HBI.out.up⟩
        go_wp2_with fail
        go_roundw
        case rel => exact ⟨h + 1, j, by simp, rfl, HN.out, HB9.out, HX9.out⟩
        case measure => simp [intOf]; omega
    · have hje : j = i := by omega
      subst hje
      have hd : decide ((j : Int) < (j : Int)) = false := by simp
      obtain ⟨f, hf⟩ : ∃ f, decide (j < L.length ∧ keyA (fiR (L.getD j noRg)) = keyA x) = f := ⟨_, rfl⟩
      have HF := Lib.hid hf
      clear hf
      go_upto_region 8 with (fail)
      go_cut [6, 7] from 35 to 48 (fun v6 v7 wc => v6 = .int .i64 j ∧ v7 = .bool f ∧ Below wr.heap.size wr wc)
      case first =>
        by_cases hjl : j < L.length
        · have hd2 : decide ((j : Int) < (L.length : Int)) = true := by simp; omega
          have s4 : (j : Int) < (L.length : Int) := by omega
          obtain ⟨gA, oA, rfl, hgA, hca⟩ := (HA.out.below HBW.out) j (by omega)
          obtain ⟨c0, c1, c2, c3, c4, c5⟩ := rg_cells hca
          have hcl := fun W => hasFn_any (L.getD j noRg) x W
          have hkc := (spanC_key (HL.out.ok (L.getD j noRg) (rw_mem (by omega))).f HX.out).2.1
          have hkc1 : spanC (L.getD j noRg).six (L.getD j noRg).hi (L.getD j noRg).lo x.six x.hi x.lo = 0 ↔ keyA (fiR (L.getD j noRg)) = keyA x := hkc
          generalize L.getD j noRg = r at *
          generalize spanC r.six r.hi r.lo x.six x.hi x.lo = c at *
          have hcd : decide (c = 0) = f := by rw [← HF.out, decide_eq_decide, hkc1]; exact ⟨fun h => ⟨hjl, h⟩, fun h => h.2⟩
          have HC : Hid ((c == 0) = f) := Lib.hid (by rw [← hcd]; rfl)
          clear hcd
          clear hca hkc hkc1
          -- R8
          refine wp_region_exact 15 (fun f' => ⟨#[.slice (some ⟨gA, oA, none⟩) L.length ca, .agg #[Value.bool x.six, Value.int IntKind.u64 x.hi, Value.int IntKind.u64 x.lo], .func (Fn.func 55) #[] #[], undef, .pointer (some ⟨w.heap.size, 0, none⟩), undef, f' 14, .bool false, .int .i64 L.length, .int .i64 j, .int .i64 j, u11, .slice (some ⟨gA, oA, none⟩) L.length ca, .int .i64 L.length, .int .i64 L.length, .int .i64 j, .int .i64 j, .bool false, u18, u19, u20, u21, u22, u23, u24, u25, u26, u27, u28, u29, u30, u31, u32, u33, u34, f' 0, f' 1, f' 2, f' 3, f' 4, f' 5, f' 6, f' 7, f' 8, f' 9, f' 10, f' 11, f' 12, f' 13], []⟩) (fun i9 => match i9 with | 0 => .int .i64 j | 1 => .int .i64 j | 2 => .int .i64 L.length | 3 => .bool true | 4 => .bool true | 5 => .func (Fn.func 55) #[] #[] | 6 => .slice (some ⟨gA, oA, none⟩) L.length ca | 7 => .int .i64 j | 8 => .pointer (some ⟨gA, oA + j * 6, none⟩) | 9 => .agg #[.bool r.six, .int .u64 r.hi, .int .u64 r.lo, .bool r.six2, .int .u64 r.hi2, .int .u64 r.lo2] | 10 => .agg #[.bool x.six, .int .u64 x.hi, .int .u64 x.lo] | 11 => .int .i64 c | 12 => .bool f | 13 => .bool f | 14 => .int .i64 j | _ => undef) (fun lb w' => Hid (Below wr.heap.size wr w')) (fun i9 => match i9 with | 14 => .int .i64 0 | _ => undef) 24 (show Tryz.prog.follows .mixedOrders = true from by kernel_rfl) (by kernel_rfl) ?_ ?_ (Lib.hid (Below.refl _ _).drew)
          · intro i9 op hi9 ho lb f' w' hl hS hd
            have hcase : i9 = 0 ∨ i9 = 1 ∨ i9 = 2 ∨ i9 = 3 ∨ i9 = 4 ∨ i9 = 5 ∨ i9 = 6 ∨ i9 = 7 ∨ i9 = 8 ∨ i9 = 9 ∨ i9 = 10 ∨ i9 = 11 ∨ i9 = 12 ∨ i9 = 13 ∨ i9 = 14 := by omega
            rcases hcase with rfl | rfl | rfl | rfl | rfl | rfl | rfl | rfl | rfl | rfl | rfl | rfl | rfl | rfl | rfl <;> (replace ho := Option.some.inj ho; subst ho)
            · refine OpStep.of rfl ?_
              unfold Oper.wp
              go_simp
              first | exact ⟨by first | (simp [upd]; done) | (simp [upd]; omega), hS⟩ | (simp [upd]; done) | (simp [upd]; omega)
            · refine OpStep.of rfl ?_
              unfold Oper.wp
              go_simp
              first | exact ⟨by first | (simp [upd]; done) | (simp [upd]; omega), hS⟩ | (simp [upd]; done) | (simp [upd]; omega)
            · refine OpStep.of rfl ?_
              unfold Oper.wp
              go_simp
              first | exact ⟨by first | (simp [upd]; done) | (simp [upd]; omega), hS⟩ | (simp [upd]; done) | (simp [upd]; omega)
            · have e1 : f' 1 = .int .i64 j := (hd ⟨1, .data⟩ (by simp) rfl).2
              have e2 : f' 2 = .int .i64 L.length := (hd ⟨2, .data⟩ (by simp) rfl).2
              refine OpStep.of rfl ?_
              unfold Oper.wp
              go_simp
              first | exact ⟨by first | (simp [upd, e1, e2]; done) | (simp [upd, e1, e2]; omega), hS⟩ | (simp [upd, e1, e2]; done) | (simp [upd, e1, e2]; omega)
            · have e3 : f' 3 = .bool true := (hd ⟨3, .data⟩ (by simp) rfl).2
              refine OpStep.of rfl ?_
              unfold Oper.wp
              go_simp
              first | exact ⟨by first | (simp [upd, e3]; done) | (simp [upd, e3]; omega), hS⟩ | (simp [upd, e3]; done) | (simp [upd, e3]; omega)
            · refine OpStep.of (by have e4 : f' 4 = .bool true := (hd ⟨4, .guard⟩ (by simp) rfl).2; simp [Region.wanted, yielded, e4]) ?_
              unfold Oper.wp
              go_simp
              first | exact ⟨by first | (simp [upd]; done) | (simp [upd]; omega), hS⟩ | (simp [upd]; done) | (simp [upd]; omega)
            · refine OpStep.of (by have e4 : f' 4 = .bool true := (hd ⟨4, .guard⟩ (by simp) rfl).2; simp [Region.wanted, yielded, e4]) ?_
              unfold Oper.wp
              go_simp
              first | exact ⟨by first | (simp [upd]; done) | (simp [upd]; omega), hS⟩ | (simp [upd]; done) | (simp [upd]; omega)
            · refine OpStep.of (by have e4 : f' 4 = .bool true := (hd ⟨4, .guard⟩ (by simp) rfl).2; simp [Region.wanted, yielded, e4]) ?_
              unfold Oper.wp
              go_simp
              first | exact ⟨by first | (simp [upd]; done) | (simp [upd]; omega), hS⟩ | (simp [upd]; done) | (simp [upd]; omega)
            · have e6 : f' 6 = .slice (some ⟨gA, oA, none⟩) L.length ca := (hd ⟨6, .data⟩ (by simp) rfl).2
              have e7 : f' 7 = .int .i64 j := (hd ⟨7, .data⟩ (by simp) rfl).2
              refine OpStep.of (by have e4 : f' 4 = .bool true := (hd ⟨4, .guard⟩ (by simp) rfl).2; simp [Region.wanted, yielded, e4]) ?_
              unfold Oper.wp
              go_simp
              first | exact ⟨by first | (simp [upd, e6, e7]; done) | (simp [upd, e6, e7]; omega), hS⟩ | (simp [upd, e6, e7]; done) | (simp [upd, e6, e7]; omega)
            · have e8 : f' 8 = .pointer (some ⟨gA, oA + j * 6, none⟩) := (hd ⟨8, .data⟩ (by simp) rfl).2
              refine OpStep.of (by have e4 : f' 4 = .bool true := (hd ⟨4, .guard⟩ (by simp) rfl).2; simp [Region.wanted, yielded, e4]) ?_
              have c0' : w'.cell? ⟨gA, oA + j * 6, none⟩ = some (.bool r.six) := (hS.out.cell (p := ⟨gA, _, none⟩) hgA).trans c0
              have c1' : w'.cell? ⟨gA, oA + j * 6 + 1, none⟩ = some (.int .u64 r.hi) := (hS.out.cell (p := ⟨gA, _, none⟩) hgA).trans c1
              have c2' : w'.cell? ⟨gA, oA + j * 6 + 2, none⟩ = some (.int .u64 r.lo) := (hS.out.cell (p := ⟨gA, _, none⟩) hgA).trans c2
              have c3' : w'.cell? ⟨gA, oA + j * 6 + 3, none⟩ = some (.bool r.six2) := (hS.out.cell (p := ⟨gA, _, none⟩) hgA).trans c3
              have c4' : w'.cell? ⟨gA, oA + j * 6 + 4, none⟩ = some (.int .u64 r.hi2) := (hS.out.cell (p := ⟨gA, _, none⟩) hgA).trans c4
              have c5' : w'.cell? ⟨gA, oA + j * 6 + 5, none⟩ = some (.int .u64 r.lo2) := (hS.out.cell (p := ⟨gA, _, none⟩) hgA).trans c5
              unfold Oper.wp
              go_simp
              first | exact ⟨by first | (simp [upd, e8]; done) | (simp [upd, e8]; omega), hS⟩ | (simp [upd, e8]; done) | (simp [upd, e8]; omega)
            · refine OpStep.of (by have e4 : f' 4 = .bool true := (hd ⟨4, .guard⟩ (by simp) rfl).2; simp [Region.wanted, yielded, e4]) ?_
              have x0' : w'.cell? ⟨w.heap.size, 0, none⟩ = some (.bool x.six) := (hS.out.cell (p := ⟨w.heap.size, _, none⟩) hbx).trans x0
              have x1' : w'.cell? ⟨w.heap.size, 1, none⟩ = some (.int .u64 x.hi) := (hS.out.cell (p := ⟨w.heap.size, _, none⟩) hbx).trans x1
              have x2' : w'.cell? ⟨w.heap.size, 2, none⟩ = some (.int .u64 x.lo) := (hS.out.cell (p := ⟨w.heap.size, _, none⟩) hbx).trans x2
              unfold Oper.wp
              go_simp
              first | exact ⟨by first | (simp [upd]; done) | (simp [upd]; omega), hS⟩ | (simp [upd]; done) | (simp [upd]; omega)
            · have e5 : f' 5 = .func (Fn.func 55) #[] #[] := (hd ⟨5, .data⟩ (by simp) rfl).2
              have e9 : f' 9 = .agg #[.bool r.six, .int .u64 r.hi, .int .u64 r.lo, .bool r.six2, .int .u64 r.hi2, .int .u64 r.lo2] := (hd ⟨9, .data⟩ (by simp) rfl).2
              have e10 : f' 10 = .agg #[.bool x.six, .int .u64 x.hi, .int .u64 x.lo] := (hd ⟨10, .data⟩ (by simp) rfl).2
              refine OpStep.of (by have e4 : f' 4 = .bool true := (hd ⟨4, .guard⟩ (by simp) rfl).2; simp [Region.wanted, yielded, e4]) ?_
              unfold Oper.wp
              go_simp
              refine (hcl w').mono ?_
              rintro e w9 ⟨rfl, hb9⟩
              exact ⟨by simp [upd, e5, e9, e10], Lib.hid (hS.out.trans (hb9.mono hS.out.size))⟩
            · have e11 : f' 11 = .int .i64 c := (hd ⟨11, .data⟩ (by simp) rfl).2
              refine OpStep.of (by have e4 : f' 4 = .bool true := (hd ⟨4, .guard⟩ (by simp) rfl).2; simp [Region.wanted, yielded, e4]) ?_
              unfold Oper.wp
              go_simp
              first | exact ⟨by first | (simp [upd, e11, HC.out]; done) | (simp [upd, e11, HC.out]; omega), hS⟩ | (simp [upd, e11, HC.out]; done) | (simp [upd, e11, HC.out]; omega)
            · have e4 : f' 4 = .bool true := (hd ⟨4, .data⟩ (by simp) rfl).2
              have e12 : f' 12 = .bool f := (hd ⟨12, .data⟩ (by simp) rfl).2
              refine OpStep.of rfl ?_
              unfold Oper.wp
              go_simp
              first | exact ⟨by first | (simp [upd, e4, e12]; done) | (simp [upd, e4, e12]; omega), hS⟩ | (simp [upd, e4, e12]; done) | (simp [upd, e4, e12]; omega)
            · have e0 : f' 0 = .int .i64 j := (hd ⟨0, .data⟩ (by simp) rfl).2
              refine OpStep.of rfl ?_
              unfold Oper.wp
              go_simp
              first | exact ⟨by first | (simp [upd, e0]; done) | (simp [upd, e0]; omega), hS⟩ | (simp [upd, e0]; done) | (simp [upd, e0]; omega)
          · intro op ho lb f' w' hd hS
            have e13 : f' 13 = .bool f := (hd 13 (by omega)).2
            replace ho := Option.some.inj ho
            subst ho
            refine ⟨rfl, ?_⟩
            unfold Oper.wp
            go_simp
            first | (go_step; go_step; go_meet) | (go_step; go_meet) | go_meet | skip
            exact ⟨rfl, rfl, hS.out⟩
          -- END R8
        · have hd2 : decide ((j : Int) < (L.length : Int)) = false := by simp; omega
          have hff : f = false := by rw [← HF.out]; exact decide_eq_false fun h => hjl h.1
          subst hff
          -- R8N
          refine wp_region_exact 15 (fun f' => ⟨#[.slice A L.length ca, .agg #[Value.bool x.six, Value.int IntKind.u64 x.hi, Value.int IntKind.u64 x.lo], .func (Fn.func 55) #[] #[], undef, .pointer (some ⟨w.heap.size, 0, none⟩), undef, f' 14, .bool false, .int .i64 L.length, .int .i64 j, .int .i64 j, u11, .slice A L.length ca, .int .i64 L.length, .int .i64 L.length, .int .i64 j, .int .i64 j, .bool false, u18, u19, u20, u21, u22, u23, u24, u25, u26, u27, u28, u29, u30, u31, u32, u33, u34, f' 0, f' 1, f' 2, f' 3, f' 4, f' 5, f' 6, f' 7, f' 8, f' 9, f' 10, f' 11, f' 12, f' 13], []⟩) (fun i9 => match i9 with | 0 => .int .i64 j | 1 => .int .i64 j | 2 => .int .i64 L.length | 3 => .bool false | 4 => .bool false | 5 => undef | 6 => undef | 7 => undef | 8 => undef | 9 => undef | 10 => undef | 11 => undef | 12 => undef | 13 => .bool false | 14 => .int .i64 j | _ => undef) (fun lb w' => Hid (Below wr.heap.size wr w')) (fun i9 => match i9 with | 14 => .int .i64 0 | _ => undef) 24 (show Tryz.prog.follows .mixedOrders = true from by kernel_rfl) (by kernel_rfl) ?_ ?_ (Lib.hid (Below.refl _ _).drew)
          · intro i9 op hi9 ho lb f' w' hl hS hd
            have hcase : i9 = 0 ∨ i9 = 1 ∨ i9 = 2 ∨ i9 = 3 ∨ i9 = 4 ∨ i9 = 5 ∨ i9 = 6 ∨ i9 = 7 ∨ i9 = 8 ∨ i9 = 9 ∨ i9 = 10 ∨ i9 = 11 ∨ i9 = 12 ∨ i9 = 13 ∨ i9 = 14 := by omega
            rcases hcase with rfl | rfl | rfl | rfl | rfl | rfl | rfl | rfl | rfl | rfl | rfl | rfl | rfl | rfl | rfl <;> (replace ho := Option.some.inj ho; subst ho)
            · refine OpStep.of rfl ?_
              unfold Oper.wp
              go_simp
              first | exact ⟨by first | (simp [upd]; done) | (simp [upd]; omega), hS⟩ | (simp [upd]; done) | (simp [upd]; omega)
            · refine OpStep.of rfl ?_
              unfold Oper.wp
              go_simp
              first | exact ⟨by first | (simp [upd]; done) | (simp [upd]; omega), hS⟩ | (simp [upd]; done) | (simp [upd]; omega)
            · refine OpStep.of rfl ?_
              unfold Oper.wp
              go_simp
              first | exact ⟨by first | (simp [upd]; done) | (simp [upd]; omega), hS⟩ | (simp [upd]; done) | (simp [upd]; omega)
            · have e1 : f' 1 = .int .i64 j := (hd ⟨1, .data⟩ (by simp) rfl).2
              have e2 : f' 2 = .int .i64 L.length := (hd ⟨2, .data⟩ (by simp) rfl).2
              refine OpStep.of rfl ?_
              unfold Oper.wp
              go_simp
              first | exact ⟨by first | (simp [upd, e1, e2]; done) | (simp [upd, e1, e2]; omega), hS⟩ | (simp [upd, e1, e2]; done) | (simp [upd, e1, e2]; omega)
            · have e3 : f' 3 = .bool false := (hd ⟨3, .data⟩ (by simp) rfl).2
              refine OpStep.of rfl ?_
              unfold Oper.wp
              go_simp
              first | exact ⟨by first | (simp [upd, e3]; done) | (simp [upd, e3]; omega), hS⟩ | (simp [upd, e3]; done) | (simp [upd, e3]; omega)
            · refine OpStep.not (by have e4 : f' 4 = .bool false := (hd ⟨4, .guard⟩ (by simp) rfl).2; simp [Region.wanted, yielded, e4]) ?_
              exact ⟨rfl, hS⟩
            · refine OpStep.not (by have e4 : f' 4 = .bool false := (hd ⟨4, .guard⟩ (by simp) rfl).2; simp [Region.wanted, yielded, e4]) ?_
              exact ⟨rfl, hS⟩
            · refine OpStep.not (by have e4 : f' 4 = .bool false := (hd ⟨4, .guard⟩ (by simp) rfl).2; simp [Region.wanted, yielded, e4]) ?_
              exact ⟨rfl, hS⟩
            · refine OpStep.not (by have e4 : f' 4 = .bool false := (hd ⟨4, .guard⟩ (by simp) rfl).2; simp [Region.wanted, yielded, e4]) ?_
              exact ⟨rfl, hS⟩
            · refine OpStep.not (by have e4 : f' 4 = .bool false := (hd ⟨4, .guard⟩ (by simp) rfl).2; simp [Region.wanted, yielded, e4]) ?_
              exact ⟨rfl, hS⟩
            · refine OpStep.not (by have e4 : f' 4 = .bool false := (hd ⟨4, .guard⟩ (by simp) rfl).2; simp [Region.wanted, yielded, e4]) ?_
              exact ⟨rfl, hS⟩
            · refine OpStep.not (by have e4 : f' 4 = .bool false := (hd ⟨4, .guard⟩ (by simp) rfl).2; simp [Region.wanted, yielded, e4]) ?_
              exact ⟨rfl, hS⟩
            · refine OpStep.not (by have e4 : f' 4 = .bool false := (hd ⟨4, .guard⟩ (by simp) rfl).2; simp [Region.wanted, yielded, e4]) ?_
              exact ⟨rfl, hS⟩
            · have e4 : f' 4 = .bool false := (hd ⟨4, .data⟩ (by simp) rfl).2
              have e12 : f' 12 = undef := (hd ⟨12, .data⟩ (by simp) rfl).2
              refine OpStep.of rfl ?_
              unfold Oper.wp
              go_simp
              first | exact ⟨by first | (simp [upd, e4, e12]; done) | (simp [upd, e4, e12]; omega), hS⟩ | (simp [upd, e4, e12]; done) | (simp [upd, e4, e12]; omega)
            · have e0 : f' 0 = .int .i64 j := (hd ⟨0, .data⟩ (by simp) rfl).2
              refine OpStep.of rfl ?_
              unfold Oper.wp
              go_simp
              first | exact ⟨by first | (simp [upd, e0]; done) | (simp [upd, e0]; omega), hS⟩ | (simp [upd, e0]; done) | (simp [upd, e0]; omega)
          · intro op ho lb f' w' hd hS
            have e13 : f' 13 = .bool false := (hd 13 (by omega)).2
            replace ho := Option.some.inj ho
            subst ho
            refine ⟨rfl, ?_⟩
            unfold Oper.wp
            go_simp
            first | (go_step; go_step; go_meet) | (go_step; go_meet) | go_meet | skip
            exact ⟨rfl, rfl, hS.out⟩
          -- END R8N
      case rest =>
      obtain ⟨rfl, rfl, hbc⟩ := hcut
      have HB9 := Lib.hid (HBW.out.trans (hbc.mono HBW.out.size))
      clear hbc x0 x1 x2
      go_wp2_with fail
      go_ret2
      exact ⟨j, f, rfl, HBI.out, by rw [← HF.out, decide_eq_true_eq], HB9.out⟩
end Go.Proofs.YtcmfkheohhfpiaaGreatDoor

namespace Go.Proofs.YtcmfkheohhfpiaaGreatDoor
open Go.RowKit Go.Hw
theorem getD_map {L : List Rg} {S : List Sn} (h : L.map rgS = S) {i : Nat} (hi : i < S.length) : S[i] = rgS (L.getD i noRg) := by
  subst h
  rw [List.getElem_map, List.getD_eq_getElem?_getD, List.getElem?_eq_getElem (by simpa using hi)]
  rfl
theorem bs_has {L : List Rg} {S : List Sn} (hL : RgsIs L S) {x : Ad} {i : Nat} (hb : BsI L x i i) : hasS S (keyA x) ↔ (i < L.length ∧ keyA (fiR (L.getD i noRg)) = keyA x) ∨ (0 < i ∧ keyA x < (rgS (L.getD (i - 1) noRg)).2) := by
  have hl : S.length = L.length := by rw [← hL.map, List.length_map]
  rw [bin_has hL.norm (k := keyA x) (i := i) (by have := hb.hi; omega) (fun j hj hji => by rw [getD_map hL.map hj]; exact hb.lo j hji) (fun j hj hij => by rw [getD_map hL.map hj]; exact hb.up j hij (by omega))]
  constructor
  · rintro (⟨h, e⟩ | ⟨h, h0, hk⟩)
    · rw [getD_map hL.map h] at e
      exact .inl ⟨by omega, e⟩
    · rw [getD_map hL.map h] at hk
      exact .inr ⟨h0, hk⟩
  · rintro (⟨h, e⟩ | ⟨h0, hk⟩)
    · refine .inl ⟨by omega, ?_⟩
      rw [getD_map hL.map (by omega)]
      exact e
    · refine .inr ⟨by have := hb.hi; omega, h0, ?_⟩
      rw [getD_map hL.map (by have := hb.hi; omega)]
      exact hk
set_option maxRecDepth 100000 in
set_option maxHeartbeats 4000000 in
theorem has_any (A : Option Addr) (ca : Nat) (L : List Rg) (S : List Sn) (x : Ad) (w : World) (hA : rgAt w A L) (hL : RgsIs L S) (hx : fineA x) (h1 : L.length ≤ 100000) :
    Calls Tryz.prog 30 #[.slice A L.length ca, .agg #[.bool x.six, .int .u64 x.hi, .int .u64 x.lo]] w fun e w' => ∃ b, e = .returned (.bool b) ∧ (b = true ↔ hasS S (keyA x)) ∧ Below w.heap.size w w' := by
  have HA := Lib.hid hA
  have HL := Lib.hid hL
  have HX := Lib.hid hx
  have HB0 := Lib.hid ((Below.refl w.heap.size w).alloc (Nat.le_refl _) (.cells #[.bool x.six, .int .u64 x.hi, .int .u64 x.lo] 30 (0, 0)))
  have HX0 := Lib.hid (heap_alloc_new w (.cells #[.bool x.six, .int .u64 x.hi, .int .u64 x.lo] 30 (0, 0)))
  obtain ⟨x0, x1, x2, -⟩ := res3 HX0.out
  have hbn := fun W (h : rgAt W A L) => binary_any A ca L S x W h hL hx h1
  have HA0 := Lib.hid (hA.below ((Below.refl w.heap.size w).alloc (Nat.le_refl _) (.cells #[.bool x.six, .int .u64 x.hi, .int .u64 x.lo] 30 (0, 0))))
  clear hA hL hx
  go_enter Tryz.func30, Tryz.ntmps30
  go_wp2_with fail
  generalize World.alloc w _ = W0 at *
  refine (hbn W0 HA0.out).mono ?_
  rintro e W1 ⟨i, f, rfl, hbs, hf, hb1⟩
  have HBI := Lib.hid hbs
  have HF := Lib.hid hf
  have HB1 := Lib.hid (HB0.out.trans (hb1.mono HB0.out.size))
  have hxw := (hb1.block _ (lt_of_block HX0.out)).trans HX0.out
  have hbx := lt_of_block hxw
  obtain ⟨x0, x1, x2, -⟩ := res3 hxw
  have HH := Lib.hid (bs_has HL.out hbs)
  have hil := hbs.hi
  clear hbs hf hb1 hxw HB0 HX0 HA0 hbn
  obtain ⟨rb, hrb⟩ : ∃ rb : Bool, rb = true ↔ hasS S (keyA x) := by
    by_cases h : hasS S (keyA x)
    · exact ⟨true, by simp [h]⟩
    · exact ⟨false, by simp [h]⟩
  have HR := Lib.hid hrb
  clear hrb
  go_upto_region 2 with (fail)
  go_cut [4] from 13 to 40 (fun v4 wc => v4 = .bool rb ∧ Below W1.heap.size W1 wc)
  case first =>
    cases f
    · by_cases hi0 : 0 < i
      · have hd1 : decide ((0 : Int) < (i : Int)) = true := by simp; omega
        obtain ⟨im, him⟩ : ∃ im : Nat, i - 1 = im := ⟨_, rfl⟩
        have s1 : IntKind.i64.wrap ((i : Int) - 1) = (im : Int) := (IntWalk.i64_in _ (by omega)).trans (by omega)
        have s4 : (im : Int) < (L.length : Int) := by omega
        have HIM := Lib.hid him
        have HI0 := Lib.hid hi0
        obtain ⟨gA, oA, rfl, hgA, hca⟩ := (HA.out.below HB1.out) im (by omega)
        obtain ⟨c0, c1, c2, c3, c4, c5⟩ := rg_cells hca
        have HRO := Lib.hid (HL.out.ok (L.getD im noRg) (rw_mem (by omega)))
        have HLO := Lib.hid (HBI.out.lo im (by omega))
        have HHE : Hid (hasS S (keyA x) ↔ keyA x < (rgS (L.getD im noRg)).2) := Lib.hid (by
          have h1 := HH.out
          rw [HIM.out] at h1
          have h2 := HF.out
          rw [h1]
          constructor
          · rintro (h | ⟨_, h⟩)
            · have := h2.2 h; cases this
            · exact h
          · exact fun h => .inr ⟨HI0.out, h⟩)
        generalize L.getD im noRg = r at *
        have hcm := fun W => spanCompare_any x.six x.hi x.lo r.six2 r.hi2 r.lo2 W
        have hkc := (spanC_key HX.out HRO.out.l).2.2
        have hkc1 : 0 < spanC x.six x.hi x.lo r.six2 r.hi2 r.lo2 ↔ keyA (laR r) < keyA x := hkc
        generalize spanC x.six x.hi x.lo r.six2 r.hi2 r.lo2 = c at *
        have HC : Hid (keyA x < (rgS r).2 ↔ c ≤ 0) := Lib.hid (by
          show keyA x < keyA (laR r) + 1 ↔ _
          omega)
        obtain ⟨q, hq⟩ : ∃ q, (r.six == x.six) = q := ⟨_, rfl⟩
        have HQ := Lib.hid hq
        clear hca hkc hkc1 hq him
        cases q
        · have hrf : rb = false := by
            have h1 := HR.out
            have h2 := HHE.out
            have h3 : ¬ keyA x < (rgS r).2 := fun h => by
              have hs : r.six ≠ x.six := by have := HQ.out; simpa using this
              have g1 := (rgS_fam HRO.out).1
              have g2 := (rgS_fam HRO.out).2
              have g3 := sixA HX.out
              have g4 := HLO.out
              have g5 : (rgS r).1 = keyA (fiR r) := rfl
              have ha := fam_apart
              have g6 := (keyA_lt HX.out)
              unfold famOk at g1
              rw [g2] at g1
              unfold sixS at g2
              cases h6 : r.six <;> cases h7 : x.six <;> rw [h6, h7] at hs <;> simp [h6, h7] at g1 g2 g3 hs <;> omega
            cases rb
            · rfl
            · exact absurd (h2.1 (h1.1 rfl)) h3
          subst hrf
          -- R2N
          refine wp_region_exact 28 (fun f' => ⟨#[.slice (some ⟨gA, oA, none⟩) L.length ca, .agg #[Value.bool x.six, Value.int IntKind.u64 x.hi, Value.int IntKind.u64 x.lo], undef, .pointer (some ⟨w.heap.size, 0, none⟩), .bool false, .int .i64 i, .bool false, .tuple #[Value.int IntKind.i64 ↑i, Value.bool false], .slice (some ⟨gA, oA, none⟩) L.length ca, .agg #[Value.bool x.six, Value.int IntKind.u64 x.hi, Value.int IntKind.u64 x.lo], .tuple #[Value.int IntKind.i64 ↑i, Value.bool false], .int .i64 i, .bool false, f' 0, f' 1, f' 2, f' 3, f' 4, f' 5, f' 6, f' 7, f' 8, f' 9, f' 10, f' 11, f' 12, f' 13, f' 14, f' 15, f' 16, f' 17, f' 18, f' 19, f' 20, f' 21, f' 22, f' 23, f' 24, f' 25, f' 26, f' 27], []⟩) (fun i9 => match i9 with | 0 => .bool false | 1 => .bool false | 2 => .int .i64 i | 3 => .bool true | 4 => .bool true | 5 => .slice (some ⟨gA, oA, none⟩) L.length ca | 6 => .int .i64 i | 7 => .int .i64 im | 8 => .pointer (some ⟨gA, oA + im * 6, none⟩) | 9 => .pointer (some ⟨gA, oA + im * 6, none⟩) | 10 => .pointer (some ⟨gA, oA + im * 6, none⟩) | 11 => .bool r.six | 12 => .pointer (some ⟨w.heap.size, 0, none⟩) | 13 => .bool x.six | 14 => .bool false | 15 => .bool false | 16 => .bool false | 17 => undef | 18 => undef | 19 => undef | 20 => undef | 21 => undef | 22 => undef | 23 => undef | 24 => undef | 25 => undef | 26 => .bool false | 27 => .bool false | _ => undef) (fun lb w' => Hid (Below W1.heap.size W1 w')) (fun _ => undef) 40 (show Tryz.prog.follows .mixedOrders = true from by kernel_rfl) (by kernel_rfl) ?_ ?_ (Lib.hid (Below.refl _ _).drew)
          · intro i9 op hi9 ho lb f' w' hl hS hd
            have hcase : i9 = 0 ∨ i9 = 1 ∨ i9 = 2 ∨ i9 = 3 ∨ i9 = 4 ∨ i9 = 5 ∨ i9 = 6 ∨ i9 = 7 ∨ i9 = 8 ∨ i9 = 9 ∨ i9 = 10 ∨ i9 = 11 ∨ i9 = 12 ∨ i9 = 13 ∨ i9 = 14 ∨ i9 = 15 ∨ i9 = 16 ∨ i9 = 17 ∨ i9 = 18 ∨ i9 = 19 ∨ i9 = 20 ∨ i9 = 21 ∨ i9 = 22 ∨ i9 = 23 ∨ i9 = 24 ∨ i9 = 25 ∨ i9 = 26 ∨ i9 = 27 := by omega
            rcases hcase with rfl | rfl | rfl | rfl | rfl | rfl | rfl | rfl | rfl | rfl | rfl | rfl | rfl | rfl | rfl | rfl | rfl | rfl | rfl | rfl | rfl | rfl | rfl | rfl | rfl | rfl | rfl | rfl <;> (replace ho := Option.some.inj ho; subst ho)
            · refine OpStep.of rfl ?_
              unfold Oper.wp
              go_simp
              first | exact ⟨by first | (simp [upd]; done) | (simp [upd]; omega), hS⟩ | (simp [upd]; done) | (simp [upd]; omega)
            · have e0 : f' 0 = .bool false := (hd ⟨0, .data⟩ (by simp) rfl).2
              refine OpStep.of rfl ?_
              unfold Oper.wp
              go_simp
              first | exact ⟨by first | (simp [upd, e0]; done) | (simp [upd, e0]; omega), hS⟩ | (simp [upd, e0]; done) | (simp [upd, e0]; omega)
            · refine OpStep.of (by have e1 : f' 1 = .bool false := (hd ⟨1, .guard⟩ (by simp) rfl).2; simp [Region.wanted, yielded, e1]) ?_
              unfold Oper.wp
              go_simp
              first | exact ⟨by first | (simp [upd]; done) | (simp [upd]; omega), hS⟩ | (simp [upd]; done) | (simp [upd]; omega)
            · have e2 : f' 2 = .int .i64 i := (hd ⟨2, .data⟩ (by simp) rfl).2
              refine OpStep.of (by have e1 : f' 1 = .bool false := (hd ⟨1, .guard⟩ (by simp) rfl).2; simp [Region.wanted, yielded, e1]) ?_
              unfold Oper.wp
              go_simp
              first | exact ⟨by first | (simp [upd, e2]; done) | (simp [upd, e2]; omega), hS⟩ | (simp [upd, e2]; done) | (simp [upd, e2]; omega)
            · have e3 : f' 3 = .bool true := (hd ⟨3, .data⟩ (by simp) rfl).2
              refine OpStep.of (by have e1 : f' 1 = .bool false := (hd ⟨1, .guard⟩ (by simp) rfl).2; simp [Region.wanted, yielded, e1]) ?_
              unfold Oper.wp
              go_simp
              first | exact ⟨by first | (simp [upd, e3]; done) | (simp [upd, e3]; omega), hS⟩ | (simp [upd, e3]; done) | (simp [upd, e3]; omega)
            · refine OpStep.of (by have e4 : f' 4 = .bool true := (hd ⟨4, .guard⟩ (by simp) rfl).2; simp [Region.wanted, yielded, e4]) ?_
              unfold Oper.wp
              go_simp
              first | exact ⟨by first | (simp [upd]; done) | (simp [upd]; omega), hS⟩ | (simp [upd]; done) | (simp [upd]; omega)
            · refine OpStep.of (by have e4 : f' 4 = .bool true := (hd ⟨4, .guard⟩ (by simp) rfl).2; simp [Region.wanted, yielded, e4]) ?_
              unfold Oper.wp
              go_simp
              first | exact ⟨by first | (simp [upd]; done) | (simp [upd]; omega), hS⟩ | (simp [upd]; done) | (simp [upd]; omega)
            · have e6 : f' 6 = .int .i64 i := (hd ⟨6, .data⟩ (by simp) rfl).2
              refine OpStep.of (by have e4 : f' 4 = .bool true := (hd ⟨4, .guard⟩ (by simp) rfl).2; simp [Region.wanted, yielded, e4]) ?_
              unfold Oper.wp
              go_simp
              first | exact ⟨by first | (simp [upd, e6]; done) | (simp [upd, e6]; omega), hS⟩ | (simp [upd, e6]; done) | (simp [upd, e6]; omega)
            · have e5 : f' 5 = .slice (some ⟨gA, oA, none⟩) L.length ca := (hd ⟨5, .data⟩ (by simp) rfl).2
              have e7 : f' 7 = .int .i64 im := (hd ⟨7, .data⟩ (by simp) rfl).2
              refine OpStep.of (by have e4 : f' 4 = .bool true := (hd ⟨4, .guard⟩ (by simp) rfl).2; simp [Region.wanted, yielded, e4]) ?_
              unfold Oper.wp
              go_simp
              first | exact ⟨by first | (simp [upd, e5, e7]; done) | (simp [upd, e5, e7]; omega), hS⟩ | (simp [upd, e5, e7]; done) | (simp [upd, e5, e7]; omega)
            · have e8 : f' 8 = .pointer (some ⟨gA, oA + im * 6, none⟩) := (hd ⟨8, .data⟩ (by simp) rfl).2
              refine OpStep.of (by have e4 : f' 4 = .bool true := (hd ⟨4, .guard⟩ (by simp) rfl).2; simp [Region.wanted, yielded, e4]) ?_
              unfold Oper.wp
              go_simp
              first | exact ⟨by first | (simp [upd, e8]; done) | (simp [upd, e8]; omega), hS⟩ | (simp [upd, e8]; done) | (simp [upd, e8]; omega)
            · have e9 : f' 9 = .pointer (some ⟨gA, oA + im * 6, none⟩) := (hd ⟨9, .data⟩ (by simp) rfl).2
              refine OpStep.of (by have e4 : f' 4 = .bool true := (hd ⟨4, .guard⟩ (by simp) rfl).2; simp [Region.wanted, yielded, e4]) ?_
              unfold Oper.wp
              go_simp
              first | exact ⟨by first | (simp [upd, e9]; done) | (simp [upd, e9]; omega), hS⟩ | (simp [upd, e9]; done) | (simp [upd, e9]; omega)
            · have e10 : f' 10 = .pointer (some ⟨gA, oA + im * 6, none⟩) := (hd ⟨10, .data⟩ (by simp) rfl).2
              refine OpStep.of (by have e4 : f' 4 = .bool true := (hd ⟨4, .guard⟩ (by simp) rfl).2; simp [Region.wanted, yielded, e4]) ?_
              have c0' : w'.cell? ⟨gA, oA + im * 6, none⟩ = some (.bool r.six) := (hS.out.cell (p := ⟨gA, _, none⟩) hgA).trans c0
              unfold Oper.wp
              go_simp
              first | exact ⟨by first | (simp [upd, e10]; done) | (simp [upd, e10]; omega), hS⟩ | (simp [upd, e10]; done) | (simp [upd, e10]; omega)
            · refine OpStep.of (by have e4 : f' 4 = .bool true := (hd ⟨4, .guard⟩ (by simp) rfl).2; simp [Region.wanted, yielded, e4]) ?_
              unfold Oper.wp
              go_simp
              first | exact ⟨by first | (simp [upd]; done) | (simp [upd]; omega), hS⟩ | (simp [upd]; done) | (simp [upd]; omega)
            · have e12 : f' 12 = .pointer (some ⟨w.heap.size, 0, none⟩) := (hd ⟨12, .data⟩ (by simp) rfl).2
              refine OpStep.of (by have e4 : f' 4 = .bool true := (hd ⟨4, .guard⟩ (by simp) rfl).2; simp [Region.wanted, yielded, e4]) ?_
              have x0' : w'.cell? ⟨w.heap.size, 0, none⟩ = some (.bool x.six) := (hS.out.cell (p := ⟨w.heap.size, _, none⟩) hbx).trans x0
              unfold Oper.wp
              go_simp
              first | exact ⟨by first | (simp [upd, e12]; done) | (simp [upd, e12]; omega), hS⟩ | (simp [upd, e12]; done) | (simp [upd, e12]; omega)
            · have e11 : f' 11 = .bool r.six := (hd ⟨11, .data⟩ (by simp) rfl).2
              have e13 : f' 13 = .bool x.six := (hd ⟨13, .data⟩ (by simp) rfl).2
              refine OpStep.of (by have e4 : f' 4 = .bool true := (hd ⟨4, .guard⟩ (by simp) rfl).2; simp [Region.wanted, yielded, e4]) ?_
              unfold Oper.wp
              go_simp
              first | exact ⟨by first | (simp [upd, e11, e13, HQ.out]; done) | (simp [upd, e11, e13, HQ.out]; omega), hS⟩ | (simp [upd, e11, e13, HQ.out]; done) | (simp [upd, e11, e13, HQ.out]; omega)
            · have e4 : f' 4 = .bool true := (hd ⟨4, .data⟩ (by simp) rfl).2
              have e14 : f' 14 = .bool false := (hd ⟨14, .data⟩ (by simp) rfl).2
              refine OpStep.of (by have e1 : f' 1 = .bool false := (hd ⟨1, .guard⟩ (by simp) rfl).2; simp [Region.wanted, yielded, e1]) ?_
              unfold Oper.wp
              go_simp
              first | exact ⟨by first | (simp [upd, e4, e14]; done) | (simp [upd, e4, e14]; omega), hS⟩ | (simp [upd, e4, e14]; done) | (simp [upd, e4, e14]; omega)
            · have e15 : f' 15 = .bool false := (hd ⟨15, .data⟩ (by simp) rfl).2
              refine OpStep.of (by have e1 : f' 1 = .bool false := (hd ⟨1, .guard⟩ (by simp) rfl).2; simp [Region.wanted, yielded, e1]) ?_
              unfold Oper.wp
              go_simp
              first | exact ⟨by first | (simp [upd, e15]; done) | (simp [upd, e15]; omega), hS⟩ | (simp [upd, e15]; done) | (simp [upd, e15]; omega)
            · refine OpStep.not (by have e16 : f' 16 = .bool false := (hd ⟨16, .guard⟩ (by simp) rfl).2; simp [Region.wanted, yielded, e16]) ?_
              exact ⟨rfl, hS⟩
            · refine OpStep.not (by have e16 : f' 16 = .bool false := (hd ⟨16, .guard⟩ (by simp) rfl).2; simp [Region.wanted, yielded, e16]) ?_
              exact ⟨rfl, hS⟩
            · refine OpStep.not (by have e16 : f' 16 = .bool false := (hd ⟨16, .guard⟩ (by simp) rfl).2; simp [Region.wanted, yielded, e16]) ?_
              exact ⟨rfl, hS⟩
            · refine OpStep.not (by have e16 : f' 16 = .bool false := (hd ⟨16, .guard⟩ (by simp) rfl).2; simp [Region.wanted, yielded, e16]) ?_
              exact ⟨rfl, hS⟩
            · refine OpStep.not (by have e16 : f' 16 = .bool false := (hd ⟨16, .guard⟩ (by simp) rfl).2; simp [Region.wanted, yielded, e16]) ?_
              exact ⟨rfl, hS⟩
            · refine OpStep.not (by have e16 : f' 16 = .bool false := (hd ⟨16, .guard⟩ (by simp) rfl).2; simp [Region.wanted, yielded, e16]) ?_
              exact ⟨rfl, hS⟩
            · refine OpStep.not (by have e16 : f' 16 = .bool false := (hd ⟨16, .guard⟩ (by simp) rfl).2; simp [Region.wanted, yielded, e16]) ?_
              exact ⟨rfl, hS⟩
            · refine OpStep.not (by have e16 : f' 16 = .bool false := (hd ⟨16, .guard⟩ (by simp) rfl).2; simp [Region.wanted, yielded, e16]) ?_
              exact ⟨rfl, hS⟩
            · refine OpStep.not (by have e16 : f' 16 = .bool false := (hd ⟨16, .guard⟩ (by simp) rfl).2; simp [Region.wanted, yielded, e16]) ?_
              exact ⟨rfl, hS⟩
            · have e16 : f' 16 = .bool false := (hd ⟨16, .data⟩ (by simp) rfl).2
              have e25 : f' 25 = undef := (hd ⟨25, .data⟩ (by simp) rfl).2
              refine OpStep.of (by have e1 : f' 1 = .bool false := (hd ⟨1, .guard⟩ (by simp) rfl).2; simp [Region.wanted, yielded, e1]) ?_
              unfold Oper.wp
              go_simp
              first | exact ⟨by first | (simp [upd, e16, e25]; done) | (simp [upd, e16, e25]; omega), hS⟩ | (simp [upd, e16, e25]; done) | (simp [upd, e16, e25]; omega)
            · have e1 : f' 1 = .bool false := (hd ⟨1, .data⟩ (by simp) rfl).2
              have e26 : f' 26 = .bool false := (hd ⟨26, .data⟩ (by simp) rfl).2
              refine OpStep.of rfl ?_
              unfold Oper.wp
              go_simp
              first | exact ⟨by first | (simp [upd, e1, e26]; done) | (simp [upd, e1, e26]; omega), hS⟩ | (simp [upd, e1, e26]; done) | (simp [upd, e1, e26]; omega)
          · intro op ho lb f' w' hd hS
            have e27 : f' 27 = .bool false := (hd 27 (by omega)).2
            replace ho := Option.some.inj ho
            subst ho
            refine ⟨rfl, ?_⟩
            unfold Oper.wp
            go_simp
            first | (go_step; go_step; go_meet) | (go_step; go_meet) | go_meet | skip
            exact ⟨rfl, hS.out⟩
          -- END R2N
        · have hrc : decide (c ≤ 0) = rb := by
            have h1 := HR.out
            have h2 := HHE.out
            have h3 := HC.out
            by_cases h4 : c ≤ 0
            · rw [decide_eq_true h4]; exact (h1.2 (h2.2 (h3.2 h4))).symm
            · rw [decide_eq_false h4]
              cases rb
              · rfl
              · exact absurd (h3.1 (h2.1 (h1.1 rfl))) h4
          have HRC := Lib.hid hrc
          clear hrc
          -- R2Y
          refine wp_region_exact 28 (fun f' => ⟨#[.slice (some ⟨gA, oA, none⟩) L.length ca, .agg #[Value.bool x.six, Value.int IntKind.u64 x.hi, Value.int IntKind.u64 x.lo], undef, .pointer (some ⟨w.heap.size, 0, none⟩), .bool false, .int .i64 i, .bool false, .tuple #[Value.int IntKind.i64 ↑i, Value.bool false], .slice (some ⟨gA, oA, none⟩) L.length ca, .agg #[Value.bool x.six, Value.int IntKind.u64 x.hi, Value.int IntKind.u64 x.lo], .tuple #[Value.int IntKind.i64 ↑i, Value.bool false], .int .i64 i, .bool false, f' 0, f' 1, f' 2, f' 3, f' 4, f' 5, f' 6, f' 7, f' 8, f' 9, f' 10, f' 11, f' 12, f' 13, f' 14, f' 15, f' 16, f' 17, f' 18, f' 19, f' 20, f' 21, f' 22, f' 23, f' 24, f' 25, f' 26, f' 27], []⟩) (fun i9 => match i9 with | 0 => .bool false | 1 => .bool false | 2 => .int .i64 i | 3 => .bool true | 4 => .bool true | 5 => .slice (some ⟨gA, oA, none⟩) L.length ca | 6 => .int .i64 i | 7 => .int .i64 im | 8 => .pointer (some ⟨gA, oA + im * 6, none⟩) | 9 => .pointer (some ⟨gA, oA + im * 6, none⟩) | 10 => .pointer (some ⟨gA, oA + im * 6, none⟩) | 11 => .bool r.six | 12 => .pointer (some ⟨w.heap.size, 0, none⟩) | 13 => .bool x.six | 14 => .bool true | 15 => .bool true | 16 => .bool true | 17 => .agg #[.bool x.six, .int .u64 x.hi, .int .u64 x.lo] | 18 => .slice (some ⟨gA, oA, none⟩) L.length ca | 19 => .int .i64 i | 20 => .int .i64 im | 21 => .pointer (some ⟨gA, oA + im * 6, none⟩) | 22 => .pointer (some ⟨gA, oA + im * 6 + 3, none⟩) | 23 => .agg #[.bool r.six2, .int .u64 r.hi2, .int .u64 r.lo2] | 24 => .int .i64 c | 25 => .bool rb | 26 => .bool rb | 27 => .bool rb | _ => undef) (fun lb w' => Hid (Below W1.heap.size W1 w')) (fun _ => undef) 40 (show Tryz.prog.follows .mixedOrders = true from by kernel_rfl) (by kernel_rfl) ?_ ?_ (Lib.hid (Below.refl _ _).drew)
          · intro i9 op hi9 ho lb f' w' hl hS hd
            have hcase : i9 = 0 ∨ i9 = 1 ∨ i9 = 2 ∨ i9 = 3 ∨ i9 = 4 ∨ i9 = 5 ∨ i9 = 6 ∨ i9 = 7 ∨ i9 = 8 ∨ i9 = 9 ∨ i9 = 10 ∨ i9 = 11 ∨ i9 = 12 ∨ i9 = 13 ∨ i9 = 14 ∨ i9 = 15 ∨ i9 = 16 ∨ i9 = 17 ∨ i9 = 18 ∨ i9 = 19 ∨ i9 = 20 ∨ i9 = 21 ∨ i9 = 22 ∨ i9 = 23 ∨ i9 = 24 ∨ i9 = 25 ∨ i9 = 26 ∨ i9 = 27 := by omega
            rcases hcase with rfl | rfl | rfl | rfl | rfl | rfl | rfl | rfl | rfl | rfl | rfl | rfl | rfl | rfl | rfl | rfl | rfl | rfl | rfl | rfl | rfl | rfl | rfl | rfl | rfl | rfl | rfl | rfl <;> (replace ho := Option.some.inj ho; subst ho)
            · refine OpStep.of rfl ?_
              unfold Oper.wp
              go_simp
              first | exact ⟨by first | (simp [upd]; done) | (simp [upd]; omega), hS⟩ | (simp [upd]; done) | (simp [upd]; omega)
            · have e0 : f' 0 = .bool false := (hd ⟨0, .data⟩ (by simp) rfl).2
              refine OpStep.of rfl ?_
              unfold Oper.wp
              go_simp
              first | exact ⟨by first | (simp [upd, e0]; done) | (simp [upd, e0]; omega), hS⟩ | (simp [upd, e0]; done) | (simp [upd, e0]; omega)
            · refine OpStep.of (by have e1 : f' 1 = .bool false := (hd ⟨1, .guard⟩ (by simp) rfl).2; simp [Region.wanted, yielded, e1]) ?_
              unfold Oper.wp
              go_simp
              first | exact ⟨by first | (simp [upd]; done) | (simp [upd]; omega), hS⟩ | (simp [upd]; done) | (simp [upd]; omega)
            · have e2 : f' 2 = .int .i64 i := (hd ⟨2, .data⟩ (by simp) rfl).2
              refine OpStep.of (by have e1 : f' 1 = .bool false := (hd ⟨1, .guard⟩ (by simp) rfl).2; simp [Region.wanted, yielded, e1]) ?_
              unfold Oper.wp
              go_simp
              first | exact ⟨by first | (simp [upd, e2]; done) | (simp [upd, e2]; omega), hS⟩ | (simp [upd, e2]; done) | (simp [upd, e2]; omega)
            · have e3 : f' 3 = .bool true := (hd ⟨3, .data⟩ (by simp) rfl).2
              refine OpStep.of (by have e1 : f' 1 = .bool false := (hd ⟨1, .guard⟩ (by simp) rfl).2; simp [Region.wanted, yielded, e1]) ?_
              unfold Oper.wp
              go_simp
              first | exact ⟨by first | (simp [upd, e3]; done) | (simp [upd, e3]; omega), hS⟩ | (simp [upd, e3]; done) | (simp [upd, e3]; omega)
            · refine OpStep.of (by have e4 : f' 4 = .bool true := (hd ⟨4, .guard⟩ (by simp) rfl).2; simp [Region.wanted, yielded, e4]) ?_
              unfold Oper.wp
              go_simp
              first | exact ⟨by first | (simp [upd]; done) | (simp [upd]; omega), hS⟩ | (simp [upd]; done) | (simp [upd]; omega)
            · refine OpStep.of (by have e4 : f' 4 = .bool true := (hd ⟨4, .guard⟩ (by simp) rfl).2; simp [Region.wanted, yielded, e4]) ?_
              unfold Oper.wp
              go_simp
              first | exact ⟨by first | (simp [upd]; done) | (simp [upd]; omega), hS⟩ | (simp [upd]; done) | (simp [upd]; omega)
            · have e6 : f' 6 = .int .i64 i := (hd ⟨6, .data⟩ (by simp) rfl).2
              refine OpStep.of (by have e4 : f' 4 = .bool true := (hd ⟨4, .guard⟩ (by simp) rfl).2; simp [Region.wanted, yielded, e4]) ?_
              unfold Oper.wp
              go_simp
              first | exact ⟨by first | (simp [upd, e6]; done) | (simp [upd, e6]; omega), hS⟩ | (simp [upd, e6]; done) | (simp [upd, e6]; omega)
            · have e5 : f' 5 = .slice (some ⟨gA, oA, none⟩) L.length ca := (hd ⟨5, .data⟩ (by simp) rfl).2
              have e7 : f' 7 = .int .i64 im := (hd ⟨7, .data⟩ (by simp) rfl).2
              refine OpStep.of (by have e4 : f' 4 = .bool true := (hd ⟨4, .guard⟩ (by simp) rfl).2; simp [Region.wanted, yielded, e4]) ?_
              unfold Oper.wp
              go_simp
              first | exact ⟨by first | (simp [upd, e5, e7]; done) | (simp [upd, e5, e7]; omega), hS⟩ | (simp [upd, e5, e7]; done) | (simp [upd, e5, e7]; omega)
            · have e8 : f' 8 = .pointer (some ⟨gA, oA + im * 6, none⟩) := (hd ⟨8, .data⟩ (by simp) rfl).2
              refine OpStep.of (by have e4 : f' 4 = .bool true := (hd ⟨4, .guard⟩ (by simp) rfl).2; simp [Region.wanted, yielded, e4]) ?_
              unfold Oper.wp
              go_simp
              first | exact ⟨by first | (simp [upd, e8]; done) | (simp [upd, e8]; omega), hS⟩ | (simp [upd, e8]; done) | (simp [upd, e8]; omega)
            · have e9 : f' 9 = .pointer (some ⟨gA, oA + im * 6, none⟩) := (hd ⟨9, .data⟩ (by simp) rfl).2
              refine OpStep.of (by have e4 : f' 4 = .bool true := (hd ⟨4, .guard⟩ (by simp) rfl).2; simp [Region.wanted, yielded, e4]) ?_
              unfold Oper.wp
              go_simp
              first | exact ⟨by first | (simp [upd, e9]; done) | (simp [upd, e9]; omega), hS⟩ | (simp [upd, e9]; done) | (simp [upd, e9]; omega)
            · have e10 : f' 10 = .pointer (some ⟨gA, oA + im * 6, none⟩) := (hd ⟨10, .data⟩ (by simp) rfl).2
              refine OpStep.of (by have e4 : f' 4 = .bool true := (hd ⟨4, .guard⟩ (by simp) rfl).2; simp [Region.wanted, yielded, e4]) ?_
              have c0' : w'.cell? ⟨gA, oA + im * 6, none⟩ = some (.bool r.six) := (hS.out.cell (p := ⟨gA, _, none⟩) hgA).trans c0
              unfold Oper.wp
              go_simp
              first | exact ⟨by first | (simp [upd, e10]; done) | (simp [upd, e10]; omega), hS⟩ | (simp [upd, e10]; done) | (simp [upd, e10]; omega)
            · refine OpStep.of (by have e4 : f' 4 = .bool true := (hd ⟨4, .guard⟩ (by simp) rfl).2; simp [Region.wanted, yielded, e4]) ?_
              unfold Oper.wp
              go_simp
              first | exact ⟨by first | (simp [upd]; done) | (simp [upd]; omega), hS⟩ | (simp [upd]; done) | (simp [upd]; omega)
            · have e12 : f' 12 = .pointer (some ⟨w.heap.size, 0, none⟩) := (hd ⟨12, .data⟩ (by simp) rfl).2
              refine OpStep.of (by have e4 : f' 4 = .bool true := (hd ⟨4, .guard⟩ (by simp) rfl).2; simp [Region.wanted, yielded, e4]) ?_
              have x0' : w'.cell? ⟨w.heap.size, 0, none⟩ = some (.bool x.six) := (hS.out.cell (p := ⟨w.heap.size, _, none⟩) hbx).trans x0
              unfold Oper.wp
              go_simp
              first | exact ⟨by first | (simp [upd, e12]; done) | (simp [upd, e12]; omega), hS⟩ | (simp [upd, e12]; done) | (simp [upd, e12]; omega)
            · have e11 : f' 11 = .bool r.six := (hd ⟨11, .data⟩ (by simp) rfl).2
              have e13 : f' 13 = .bool x.six := (hd ⟨13, .data⟩ (by simp) rfl).2
              refine OpStep.of (by have e4 : f' 4 = .bool true := (hd ⟨4, .guard⟩ (by simp) rfl).2; simp [Region.wanted, yielded, e4]) ?_
              unfold Oper.wp
              go_simp
              first | exact ⟨by first | (simp [upd, e11, e13, HQ.out]; done) | (simp [upd, e11, e13, HQ.out]; omega), hS⟩ | (simp [upd, e11, e13, HQ.out]; done) | (simp [upd, e11, e13, HQ.out]; omega)
            · have e4 : f' 4 = .bool true := (hd ⟨4, .data⟩ (by simp) rfl).2
              have e14 : f' 14 = .bool true := (hd ⟨14, .data⟩ (by simp) rfl).2
              refine OpStep.of (by have e1 : f' 1 = .bool false := (hd ⟨1, .guard⟩ (by simp) rfl).2; simp [Region.wanted, yielded, e1]) ?_
              unfold Oper.wp
              go_simp
              first | exact ⟨by first | (simp [upd, e4, e14]; done) | (simp [upd, e4, e14]; omega), hS⟩ | (simp [upd, e4, e14]; done) | (simp [upd, e4, e14]; omega)
            · have e15 : f' 15 = .bool true := (hd ⟨15, .data⟩ (by simp) rfl).2
              refine OpStep.of (by have e1 : f' 1 = .bool false := (hd ⟨1, .guard⟩ (by simp) rfl).2; simp [Region.wanted, yielded, e1]) ?_
              unfold Oper.wp
              go_simp
              first | exact ⟨by first | (simp [upd, e15]; done) | (simp [upd, e15]; omega), hS⟩ | (simp [upd, e15]; done) | (simp [upd, e15]; omega)
            · refine OpStep.of (by have e16 : f' 16 = .bool true := (hd ⟨16, .guard⟩ (by simp) rfl).2; simp [Region.wanted, yielded, e16]) ?_
              have x0' : w'.cell? ⟨w.heap.size, 0, none⟩ = some (.bool x.six) := (hS.out.cell (p := ⟨w.heap.size, _, none⟩) hbx).trans x0
              have x1' : w'.cell? ⟨w.heap.size, 1, none⟩ = some (.int .u64 x.hi) := (hS.out.cell (p := ⟨w.heap.size, _, none⟩) hbx).trans x1
              have x2' : w'.cell? ⟨w.heap.size, 2, none⟩ = some (.int .u64 x.lo) := (hS.out.cell (p := ⟨w.heap.size, _, none⟩) hbx).trans x2
              unfold Oper.wp
              go_simp
              first | exact ⟨by first | (simp [upd]; done) | (simp [upd]; omega), hS⟩ | (simp [upd]; done) | (simp [upd]; omega)
            · refine OpStep.of (by have e16 : f' 16 = .bool true := (hd ⟨16, .guard⟩ (by simp) rfl).2; simp [Region.wanted, yielded, e16]) ?_
              unfold Oper.wp
              go_simp
              first | exact ⟨by first | (simp [upd]; done) | (simp [upd]; omega), hS⟩ | (simp [upd]; done) | (simp [upd]; omega)
            · refine OpStep.of (by have e16 : f' 16 = .bool true := (hd ⟨16, .guard⟩ (by simp) rfl).2; simp [Region.wanted, yielded, e16]) ?_
              unfold Oper.wp
              go_simp
              first | exact ⟨by first | (simp [upd]; done) | (simp [upd]; omega), hS⟩ | (simp [upd]; done) | (simp [upd]; omega)
            · have e19 : f' 19 = .int .i64 i := (hd ⟨19, .data⟩ (by simp) rfl).2
              refine OpStep.of (by have e16 : f' 16 = .bool true := (hd ⟨16, .guard⟩ (by simp) rfl).2; simp [Region.wanted, yielded, e16]) ?_
              unfold Oper.wp
              go_simp
              first | exact ⟨by first | (simp [upd, e19]; done) | (simp [upd, e19]; omega), hS⟩ | (simp [upd, e19]; done) | (simp [upd, e19]; omega)
            · have e18 : f' 18 = .slice (some ⟨gA, oA, none⟩) L.length ca := (hd ⟨18, .data⟩ (by simp) rfl).2
              have e20 : f' 20 = .int .i64 im := (hd ⟨20, .data⟩ (by simp) rfl).2
              refine OpStep.of (by have e16 : f' 16 = .bool true := (hd ⟨16, .guard⟩ (by simp) rfl).2; simp [Region.wanted, yielded, e16]) ?_
              unfold Oper.wp
              go_simp
              first | exact ⟨by first | (simp [upd, e18, e20]; done) | (simp [upd, e18, e20]; omega), hS⟩ | (simp [upd, e18, e20]; done) | (simp [upd, e18, e20]; omega)
            · have e21 : f' 21 = .pointer (some ⟨gA, oA + im * 6, none⟩) := (hd ⟨21, .data⟩ (by simp) rfl).2
              refine OpStep.of (by have e16 : f' 16 = .bool true := (hd ⟨16, .guard⟩ (by simp) rfl).2; simp [Region.wanted, yielded, e16]) ?_
              unfold Oper.wp
              go_simp
              first | exact ⟨by first | (simp [upd, e21]; done) | (simp [upd, e21]; omega), hS⟩ | (simp [upd, e21]; done) | (simp [upd, e21]; omega)
            · have e22 : f' 22 = .pointer (some ⟨gA, oA + im * 6 + 3, none⟩) := (hd ⟨22, .data⟩ (by simp) rfl).2
              refine OpStep.of (by have e16 : f' 16 = .bool true := (hd ⟨16, .guard⟩ (by simp) rfl).2; simp [Region.wanted, yielded, e16]) ?_
              have c3' : w'.cell? ⟨gA, oA + im * 6 + 3, none⟩ = some (.bool r.six2) := (hS.out.cell (p := ⟨gA, _, none⟩) hgA).trans c3
              have c4' : w'.cell? ⟨gA, oA + im * 6 + 4, none⟩ = some (.int .u64 r.hi2) := (hS.out.cell (p := ⟨gA, _, none⟩) hgA).trans c4
              have c5' : w'.cell? ⟨gA, oA + im * 6 + 5, none⟩ = some (.int .u64 r.lo2) := (hS.out.cell (p := ⟨gA, _, none⟩) hgA).trans c5
              unfold Oper.wp
              go_simp
              first | exact ⟨by first | (simp [upd, e22]; done) | (simp [upd, e22]; omega), hS⟩ | (simp [upd, e22]; done) | (simp [upd, e22]; omega)
            · have e17 : f' 17 = .agg #[.bool x.six, .int .u64 x.hi, .int .u64 x.lo] := (hd ⟨17, .data⟩ (by simp) rfl).2
              have e23 : f' 23 = .agg #[.bool r.six2, .int .u64 r.hi2, .int .u64 r.lo2] := (hd ⟨23, .data⟩ (by simp) rfl).2
              refine OpStep.of (by have e16 : f' 16 = .bool true := (hd ⟨16, .guard⟩ (by simp) rfl).2; simp [Region.wanted, yielded, e16]) ?_
              unfold Oper.wp
              go_simp
              refine (hcm w').mono ?_
              rintro e w9 ⟨rfl, hb9⟩
              exact ⟨by simp [upd, e17, e23], Lib.hid (hS.out.trans (hb9.mono hS.out.size))⟩
            · have e24 : f' 24 = .int .i64 c := (hd ⟨24, .data⟩ (by simp) rfl).2
              refine OpStep.of (by have e16 : f' 16 = .bool true := (hd ⟨16, .guard⟩ (by simp) rfl).2; simp [Region.wanted, yielded, e16]) ?_
              unfold Oper.wp
              go_simp
              first | exact ⟨by first | (simp [upd, e24, HRC.out]; done) | (simp [upd, e24, HRC.out]; omega), hS⟩ | (simp [upd, e24, HRC.out]; done) | (simp [upd, e24, HRC.out]; omega)
            · have e16 : f' 16 = .bool true := (hd ⟨16, .data⟩ (by simp) rfl).2
              have e25 : f' 25 = .bool rb := (hd ⟨25, .data⟩ (by simp) rfl).2
              refine OpStep.of (by have e1 : f' 1 = .bool false := (hd ⟨1, .guard⟩ (by simp) rfl).2; simp [Region.wanted, yielded, e1]) ?_
              unfold Oper.wp
              go_simp
              first | exact ⟨by first | (simp [upd, e16, e25]; done) | (simp [upd, e16, e25]; omega), hS⟩ | (simp [upd, e16, e25]; done) | (simp [upd, e16, e25]; omega)
            · have e1 : f' 1 = .bool false := (hd ⟨1, .data⟩ (by simp) rfl).2
              have e26 : f' 26 = .bool rb := (hd ⟨26, .data⟩ (by simp) rfl).2
              refine OpStep.of rfl ?_
              unfold Oper.wp
              go_simp
              first | exact ⟨by first | (simp [upd, e1, e26]; done) | (simp [upd, e1, e26]; omega), hS⟩ | (simp [upd, e1, e26]; done) | (simp [upd, e1, e26]; omega)
          · intro op ho lb f' w' hd hS
            have e27 : f' 27 = .bool rb := (hd 27 (by omega)).2
            replace ho := Option.some.inj ho
            subst ho
            refine ⟨rfl, ?_⟩
            unfold Oper.wp
            go_simp
            first | (go_step; go_step; go_meet) | (go_step; go_meet) | go_meet | skip
            exact ⟨rfl, hS.out⟩
          -- END R2Y
      · have hd1 : decide ((0 : Int) < (i : Int)) = false := by simp; omega
        have hrf : rb = false := by
          have h1 := HR.out
          have h2 := HH.out
          cases rb
          · rfl
          · rcases h2.1 (h1.1 rfl) with h | ⟨h, _⟩
            · have := HF.out.2 h; cases this
            · omega
        subst hrf
        -- R2Z
        refine wp_region_exact 28 (fun f' => ⟨#[.slice A L.length ca, .agg #[Value.bool x.six, Value.int IntKind.u64 x.hi, Value.int IntKind.u64 x.lo], undef, .pointer (some ⟨w.heap.size, 0, none⟩), .bool false, .int .i64 i, .bool false, .tuple #[Value.int IntKind.i64 ↑i, Value.bool false], .slice A L.length ca, .agg #[Value.bool x.six, Value.int IntKind.u64 x.hi, Value.int IntKind.u64 x.lo], .tuple #[Value.int IntKind.i64 ↑i, Value.bool false], .int .i64 i, .bool false, f' 0, f' 1, f' 2, f' 3, f' 4, f' 5, f' 6, f' 7, f' 8, f' 9, f' 10, f' 11, f' 12, f' 13, f' 14, f' 15, f' 16, f' 17, f' 18, f' 19, f' 20, f' 21, f' 22, f' 23, f' 24, f' 25, f' 26, f' 27], []⟩) (fun i9 => match i9 with | 0 => .bool false | 1 => .bool false | 2 => .int .i64 i | 3 => .bool false | 4 => .bool false | 5 => undef | 6 => undef | 7 => undef | 8 => undef | 9 => undef | 10 => undef | 11 => undef | 12 => undef | 13 => undef | 14 => undef | 15 => .bool false | 16 => .bool false | 17 => undef | 18 => undef | 19 => undef | 20 => undef | 21 => undef | 22 => undef | 23 => undef | 24 => undef | 25 => undef | 26 => .bool false | 27 => .bool false | _ => undef) (fun lb w' => Hid (Below W1.heap.size W1 w')) (fun _ => undef) 40 (show Tryz.prog.follows .mixedOrders = true from by kernel_rfl) (by kernel_rfl) ?_ ?_ (Lib.hid (Below.refl _ _).drew)
        · intro i9 op hi9 ho lb f' w' hl hS hd
          have hcase : i9 = 0 ∨ i9 = 1 ∨ i9 = 2 ∨ i9 = 3 ∨ i9 = 4 ∨ i9 = 5 ∨ i9 = 6 ∨ i9 = 7 ∨ i9 = 8 ∨ i9 = 9 ∨ i9 = 10 ∨ i9 = 11 ∨ i9 = 12 ∨ i9 = 13 ∨ i9 = 14 ∨ i9 = 15 ∨ i9 = 16 ∨ i9 = 17 ∨ i9 = 18 ∨ i9 = 19 ∨ i9 = 20 ∨ i9 = 21 ∨ i9 = 22 ∨ i9 = 23 ∨ i9 = 24 ∨ i9 = 25 ∨ i9 = 26 ∨ i9 = 27 := by omega
          rcases hcase with rfl | rfl | rfl | rfl | rfl | rfl | rfl | rfl | rfl | rfl | rfl | rfl | rfl | rfl | rfl | rfl | rfl | rfl | rfl | rfl | rfl | rfl | rfl | rfl | rfl | rfl | rfl | rfl <;> (replace ho := Option.some.inj ho; subst ho)
          · refine OpStep.of rfl ?_
            unfold Oper.wp
            go_simp
            first | exact ⟨by first | (simp [upd]; done) | (simp [upd]; omega), hS⟩ | (simp [upd]; done) | (simp [upd]; omega)
          · have e0 : f' 0 = .bool false := (hd ⟨0, .data⟩ (by simp) rfl).2
            refine OpStep.of rfl ?_
            unfold Oper.wp
            go_simp
            first | exact ⟨by first | (simp [upd, e0]; done) | (simp [upd, e0]; omega), hS⟩ | (simp [upd, e0]; done) | (simp [upd, e0]; omega)
          · refine OpStep.of (by have e1 : f' 1 = .bool false := (hd ⟨1, .guard⟩ (by simp) rfl).2; simp [Region.wanted, yielded, e1]) ?_
            unfold Oper.wp
            go_simp
            first | exact ⟨by first | (simp [upd]; done) | (simp [upd]; omega), hS⟩ | (simp [upd]; done) | (simp [upd]; omega)
          · have e2 : f' 2 = .int .i64 i := (hd ⟨2, .data⟩ (by simp) rfl).2
            refine OpStep.of (by have e1 : f' 1 = .bool false := (hd ⟨1, .guard⟩ (by simp) rfl).2; simp [Region.wanted, yielded, e1]) ?_
            unfold Oper.wp
            go_simp
            first | exact ⟨by first | (simp [upd, e2]; done) | (simp [upd, e2]; omega), hS⟩ | (simp [upd, e2]; done) | (simp [upd, e2]; omega)
          · have e3 : f' 3 = .bool false := (hd ⟨3, .data⟩ (by simp) rfl).2
            refine OpStep.of (by have e1 : f' 1 = .bool false := (hd ⟨1, .guard⟩ (by simp) rfl).2; simp [Region.wanted, yielded, e1]) ?_
            unfold Oper.wp
            go_simp
            first | exact ⟨by first | (simp [upd, e3]; done) | (simp [upd, e3]; omega), hS⟩ | (simp [upd, e3]; done) | (simp [upd, e3]; omega)
          · refine OpStep.not (by have e4 : f' 4 = .bool false := (hd ⟨4, .guard⟩ (by simp) rfl).2; simp [Region.wanted, yielded, e4]) ?_
            exact ⟨rfl, hS⟩
          · refine OpStep.not (by have e4 : f' 4 = .bool false := (hd ⟨4, .guard⟩ (by simp) rfl).2; simp [Region.wanted, yielded, e4]) ?_
            exact ⟨rfl, hS⟩
          · refine OpStep.not (by have e4 : f' 4 = .bool false := (hd ⟨4, .guard⟩ (by simp) rfl).2; simp [Region.wanted, yielded, e4]) ?_
            exact ⟨rfl, hS⟩
          · refine OpStep.not (by have e4 : f' 4 = .bool false := (hd ⟨4, .guard⟩ (by simp) rfl).2; simp [Region.wanted, yielded, e4]) ?_
            exact ⟨rfl, hS⟩
          · refine OpStep.not (by have e4 : f' 4 = .bool false := (hd ⟨4, .guard⟩ (by simp) rfl).2; simp [Region.wanted, yielded, e4]) ?_
            exact ⟨rfl, hS⟩
          · refine OpStep.not (by have e4 : f' 4 = .bool false := (hd ⟨4, .guard⟩ (by simp) rfl).2; simp [Region.wanted, yielded, e4]) ?_
            exact ⟨rfl, hS⟩
          · refine OpStep.not (by have e4 : f' 4 = .bool false := (hd ⟨4, .guard⟩ (by simp) rfl).2; simp [Region.wanted, yielded, e4]) ?_
            exact ⟨rfl, hS⟩
          · refine OpStep.not (by have e4 : f' 4 = .bool false := (hd ⟨4, .guard⟩ (by simp) rfl).2; simp [Region.wanted, yielded, e4]) ?_
            exact ⟨rfl, hS⟩
          · refine OpStep.not (by have e4 : f' 4 = .bool false := (hd ⟨4, .guard⟩ (by simp) rfl).2; simp [Region.wanted, yielded, e4]) ?_
            exact ⟨rfl, hS⟩
          · refine OpStep.not (by have e4 : f' 4 = .bool false := (hd ⟨4, .guard⟩ (by simp) rfl).2; simp [Region.wanted, yielded, e4]) ?_
            exact ⟨rfl, hS⟩
          · have e4 : f' 4 = .bool false := (hd ⟨4, .data⟩ (by simp) rfl).2
            have e14 : f' 14 = undef := (hd ⟨14, .data⟩ (by simp) rfl).2
            refine OpStep.of (by have e1 : f' 1 = .bool false := (hd ⟨1, .guard⟩ (by simp) rfl).2; simp [Region.wanted, yielded, e1]) ?_
            unfold Oper.wp
            go_simp
            first | exact ⟨by first | (simp [upd, e4, e14]; done) | (simp [upd, e4, e14]; omega), hS⟩ | (simp [upd, e4, e14]; done) | (simp [upd, e4, e14]; omega)
          · have e15 : f' 15 = .bool false := (hd ⟨15, .data⟩ (by simp) rfl).2
            refine OpStep.of (by have e1 : f' 1 = .bool false := (hd ⟨1, .guard⟩ (by simp) rfl).2; simp [Region.wanted, yielded, e1]) ?_
            unfold Oper.wp
            go_simp
            first | exact ⟨by first | (simp [upd, e15]; done) | (simp [upd, e15]; omega), hS⟩ | (simp [upd, e15]; done) | (simp [upd, e15]; omega)
          · refine OpStep.not (by have e16 : f' 16 = .bool false := (hd ⟨16, .guard⟩ (by simp) rfl).2; simp [Region.wanted, yielded, e16]) ?_
            exact ⟨rfl, hS⟩
          · refine OpStep.not (by have e16 : f' 16 = .bool false := (hd ⟨16, .guard⟩ (by simp) rfl).2; simp [Region.wanted, yielded, e16]) ?_
            exact ⟨rfl, hS⟩
          · refine OpStep.not (by have e16 : f' 16 = .bool false := (hd ⟨16, .guard⟩ (by simp) rfl).2; simp [Region.wanted, yielded, e16]) ?_
            exact ⟨rfl, hS⟩
          · refine OpStep.not (by have e16 : f' 16 = .bool false := (hd ⟨16, .guard⟩ (by simp) rfl).2; simp [Region.wanted, yielded, e16]) ?_
            exact ⟨rfl, hS⟩
          · refine OpStep.not (by have e16 : f' 16 = .bool false := (hd ⟨16, .guard⟩ (by simp) rfl).2; simp [Region.wanted, yielded, e16]) ?_
            exact ⟨rfl, hS⟩
          · refine OpStep.not (by have e16 : f' 16 = .bool false := (hd ⟨16, .guard⟩ (by simp) rfl).2; simp [Region.wanted, yielded, e16]) ?_
            exact ⟨rfl, hS⟩
          · refine OpStep.not (by have e16 : f' 16 = .bool false := (hd ⟨16, .guard⟩ (by simp) rfl).2; simp [Region.wanted, yielded, e16]) ?_
            exact ⟨rfl, hS⟩
          · refine OpStep.not (by have e16 : f' 16 = .bool false := (hd ⟨16, .guard⟩ (by simp) rfl).2; simp [Region.wanted, yielded, e16]) ?_
            exact ⟨rfl, hS⟩
          · refine OpStep.not (by have e16 : f' 16 = .bool false := (hd ⟨16, .guard⟩ (by simp) rfl).2; simp [Region.wanted, yielded, e16]) ?_
            exact ⟨rfl, hS⟩
          · have e16 : f' 16 = .bool false := (hd ⟨16, .data⟩ (by simp) rfl).2
            have e25 : f' 25 = undef := (hd ⟨25, .data⟩ (by simp) rfl).2
            refine OpStep.of (by have e1 : f' 1 = .bool false := (hd ⟨1, .guard⟩ (by simp) rfl).2; simp [Region.wanted, yielded, e1]) ?_
            unfold Oper.wp
            go_simp
            first | exact ⟨by first | (simp [upd, e16, e25]; done) | (simp [upd, e16, e25]; omega), hS⟩ | (simp [upd, e16, e25]; done) | (simp [upd, e16, e25]; omega)
          · have e1 : f' 1 = .bool false := (hd ⟨1, .data⟩ (by simp) rfl).2
            have e26 : f' 26 = .bool false := (hd ⟨26, .data⟩ (by simp) rfl).2
            refine OpStep.of rfl ?_
            unfold Oper.wp
            go_simp
            first | exact ⟨by first | (simp [upd, e1, e26]; done) | (simp [upd, e1, e26]; omega), hS⟩ | (simp [upd, e1, e26]; done) | (simp [upd, e1, e26]; omega)
        · intro op ho lb f' w' hd hS
          have e27 : f' 27 = .bool false := (hd 27 (by omega)).2
          replace ho := Option.some.inj ho
          subst ho
          refine ⟨rfl, ?_⟩
          unfold Oper.wp
          go_simp
          first | (go_step; go_step; go_meet) | (go_step; go_meet) | go_meet | skip
          exact ⟨rfl, hS.out⟩
        -- END R2Z
    · have hrt : rb = true := HR.out.2 (HH.out.2 (.inl (HF.out.1 rfl)))
      subst hrt
      -- R2F
      refine wp_region_exact 28 (fun f' => ⟨#[.slice A L.length ca, .agg #[Value.bool x.six, Value.int IntKind.u64 x.hi, Value.int IntKind.u64 x.lo], undef, .pointer (some ⟨w.heap.size, 0, none⟩), .bool false, .int .i64 i, .bool true, .tuple #[Value.int IntKind.i64 ↑i, Value.bool true], .slice A L.length ca, .agg #[Value.bool x.six, Value.int IntKind.u64 x.hi, Value.int IntKind.u64 x.lo], .tuple #[Value.int IntKind.i64 ↑i, Value.bool true], .int .i64 i, .bool true, f' 0, f' 1, f' 2, f' 3, f' 4, f' 5, f' 6, f' 7, f' 8, f' 9, f' 10, f' 11, f' 12, f' 13, f' 14, f' 15, f' 16, f' 17, f' 18, f' 19, f' 20, f' 21, f' 22, f' 23, f' 24, f' 25, f' 26, f' 27], []⟩) (fun i9 => match i9 with | 0 => .bool true | 1 => .bool true | 2 => undef | 3 => undef | 4 => undef | 5 => undef | 6 => undef | 7 => undef | 8 => undef | 9 => undef | 10 => undef | 11 => undef | 12 => undef | 13 => undef | 14 => undef | 15 => undef | 16 => undef | 17 => undef | 18 => undef | 19 => undef | 20 => undef | 21 => undef | 22 => undef | 23 => undef | 24 => undef | 25 => undef | 26 => undef | 27 => .bool true | _ => undef) (fun lb w' => Hid (Below W1.heap.size W1 w')) (fun _ => undef) 40 (show Tryz.prog.follows .mixedOrders = true from by kernel_rfl) (by kernel_rfl) ?_ ?_ (Lib.hid (Below.refl _ _).drew)
      · intro i9 op hi9 ho lb f' w' hl hS hd
        have hcase : i9 = 0 ∨ i9 = 1 ∨ i9 = 2 ∨ i9 = 3 ∨ i9 = 4 ∨ i9 = 5 ∨ i9 = 6 ∨ i9 = 7 ∨ i9 = 8 ∨ i9 = 9 ∨ i9 = 10 ∨ i9 = 11 ∨ i9 = 12 ∨ i9 = 13 ∨ i9 = 14 ∨ i9 = 15 ∨ i9 = 16 ∨ i9 = 17 ∨ i9 = 18 ∨ i9 = 19 ∨ i9 = 20 ∨ i9 = 21 ∨ i9 = 22 ∨ i9 = 23 ∨ i9 = 24 ∨ i9 = 25 ∨ i9 = 26 ∨ i9 = 27 := by omega
        rcases hcase with rfl | rfl | rfl | rfl | rfl | rfl | rfl | rfl | rfl | rfl | rfl | rfl | rfl | rfl | rfl | rfl | rfl | rfl | rfl | rfl | rfl | rfl | rfl | rfl | rfl | rfl | rfl | rfl <;> (replace ho := Option.some.inj ho; subst ho)
        · refine OpStep.of rfl ?_
          unfold Oper.wp
          go_simp
          first | exact ⟨by first | (simp [upd]; done) | (simp [upd]; omega), hS⟩ | (simp [upd]; done) | (simp [upd]; omega)
        · have e0 : f' 0 = .bool true := (hd ⟨0, .data⟩ (by simp) rfl).2
          refine OpStep.of rfl ?_
          unfold Oper.wp
          go_simp
          first | exact ⟨by first | (simp [upd, e0]; done) | (simp [upd, e0]; omega), hS⟩ | (simp [upd, e0]; done) | (simp [upd, e0]; omega)
        · refine OpStep.not (by have e1 : f' 1 = .bool true := (hd ⟨1, .guard⟩ (by simp) rfl).2; simp [Region.wanted, yielded, e1]) ?_
          exact ⟨rfl, hS⟩
        · refine OpStep.not (by have e1 : f' 1 = .bool true := (hd ⟨1, .guard⟩ (by simp) rfl).2; simp [Region.wanted, yielded, e1]) ?_
          exact ⟨rfl, hS⟩
        · refine OpStep.not (by have e1 : f' 1 = .bool true := (hd ⟨1, .guard⟩ (by simp) rfl).2; simp [Region.wanted, yielded, e1]) ?_
          exact ⟨rfl, hS⟩
        · refine OpStep.not (by have e4 : f' 4 = undef := (hd ⟨4, .guard⟩ (by simp) rfl).2; simp [Region.wanted, yielded, e4, undef]) ?_
          exact ⟨rfl, hS⟩
        · refine OpStep.not (by have e4 : f' 4 = undef := (hd ⟨4, .guard⟩ (by simp) rfl).2; simp [Region.wanted, yielded, e4, undef]) ?_
          exact ⟨rfl, hS⟩
        · refine OpStep.not (by have e4 : f' 4 = undef := (hd ⟨4, .guard⟩ (by simp) rfl).2; simp [Region.wanted, yielded, e4, undef]) ?_
          exact ⟨rfl, hS⟩
        · refine OpStep.not (by have e4 : f' 4 = undef := (hd ⟨4, .guard⟩ (by simp) rfl).2; simp [Region.wanted, yielded, e4, undef]) ?_
          exact ⟨rfl, hS⟩
        · refine OpStep.not (by have e4 : f' 4 = undef := (hd ⟨4, .guard⟩ (by simp) rfl).2; simp [Region.wanted, yielded, e4, undef]) ?_
          exact ⟨rfl, hS⟩
        · refine OpStep.not (by have e4 : f' 4 = undef := (hd ⟨4, .guard⟩ (by simp) rfl).2; simp [Region.wanted, yielded, e4, undef]) ?_
          exact ⟨rfl, hS⟩
        · refine OpStep.not (by have e4 : f' 4 = undef := (hd ⟨4, .guard⟩ (by simp) rfl).2; simp [Region.wanted, yielded, e4, undef]) ?_
          exact ⟨rfl, hS⟩
        · refine OpStep.not (by have e4 : f' 4 = undef := (hd ⟨4, .guard⟩ (by simp) rfl).2; simp [Region.wanted, yielded, e4, undef]) ?_
          exact ⟨rfl, hS⟩
        · refine OpStep.not (by have e4 : f' 4 = undef := (hd ⟨4, .guard⟩ (by simp) rfl).2; simp [Region.wanted, yielded, e4, undef]) ?_
          exact ⟨rfl, hS⟩
        · refine OpStep.not (by have e4 : f' 4 = undef := (hd ⟨4, .guard⟩ (by simp) rfl).2; simp [Region.wanted, yielded, e4, undef]) ?_
          exact ⟨rfl, hS⟩
        · refine OpStep.not (by have e1 : f' 1 = .bool true := (hd ⟨1, .guard⟩ (by simp) rfl).2; simp [Region.wanted, yielded, e1]) ?_
          exact ⟨rfl, hS⟩
        · refine OpStep.not (by have e1 : f' 1 = .bool true := (hd ⟨1, .guard⟩ (by simp) rfl).2; simp [Region.wanted, yielded, e1]) ?_
          exact ⟨rfl, hS⟩
        · refine OpStep.not (by have e16 : f' 16 = undef := (hd ⟨16, .guard⟩ (by simp) rfl).2; simp [Region.wanted, yielded, e16, undef]) ?_
          exact ⟨rfl, hS⟩
        · refine OpStep.not (by have e16 : f' 16 = undef := (hd ⟨16, .guard⟩ (by simp) rfl).2; simp [Region.wanted, yielded, e16, undef]) ?_
          exact ⟨rfl, hS⟩
        · refine OpStep.not (by have e16 : f' 16 = undef := (hd ⟨16, .guard⟩ (by simp) rfl).2; simp [Region.wanted, yielded, e16, undef]) ?_
          exact ⟨rfl, hS⟩
        · refine OpStep.not (by have e16 : f' 16 = undef := (hd ⟨16, .guard⟩ (by simp) rfl).2; simp [Region.wanted, yielded, e16, undef]) ?_
          exact ⟨rfl, hS⟩
        · refine OpStep.not (by have e16 : f' 16 = undef := (hd ⟨16, .guard⟩ (by simp) rfl).2; simp [Region.wanted, yielded, e16, undef]) ?_
          exact ⟨rfl, hS⟩
        · refine OpStep.not (by have e16 : f' 16 = undef := (hd ⟨16, .guard⟩ (by simp) rfl).2; simp [Region.wanted, yielded, e16, undef]) ?_
          exact ⟨rfl, hS⟩
        · refine OpStep.not (by have e16 : f' 16 = undef := (hd ⟨16, .guard⟩ (by simp) rfl).2; simp [Region.wanted, yielded, e16, undef]) ?_
          exact ⟨rfl, hS⟩
        · refine OpStep.not (by have e16 : f' 16 = undef := (hd ⟨16, .guard⟩ (by simp) rfl).2; simp [Region.wanted, yielded, e16, undef]) ?_
          exact ⟨rfl, hS⟩
        · refine OpStep.not (by have e16 : f' 16 = undef := (hd ⟨16, .guard⟩ (by simp) rfl).2; simp [Region.wanted, yielded, e16, undef]) ?_
          exact ⟨rfl, hS⟩
        · refine OpStep.not (by have e1 : f' 1 = .bool true := (hd ⟨1, .guard⟩ (by simp) rfl).2; simp [Region.wanted, yielded, e1]) ?_
          exact ⟨rfl, hS⟩
        · have e1 : f' 1 = .bool true := (hd ⟨1, .data⟩ (by simp) rfl).2
          have e26 : f' 26 = undef := (hd ⟨26, .data⟩ (by simp) rfl).2
          refine OpStep.of rfl ?_
          unfold Oper.wp
          go_simp
          first | exact ⟨by first | (simp [upd, e1, e26]; done) | (simp [upd, e1, e26]; omega), hS⟩ | (simp [upd, e1, e26]; done) | (simp [upd, e1, e26]; omega)
      · intro op ho lb f' w' hd hS
        have e27 : f' 27 = .bool true := (hd 27 (by omega)).2
        replace ho := Option.some.inj ho
        subst ho
        refine ⟨rfl, ?_⟩
        unfold Oper.wp
        go_simp
        first | (go_step; go_step; go_meet) | (go_step; go_meet) | go_meet | skip
        exact ⟨rfl, hS.out⟩
      -- END R2F
  case rest =>
  obtain ⟨rfl, hbc⟩ := hcut
  have HB9 := Lib.hid (HB1.out.trans (hbc.mono HB1.out.size))
  clear hbc x0 x1 x2
  go_wp2_with fail
  go_ret
  exact ⟨rb, rfl, HR.out, HB9.out⟩
end Go.Proofs.YtcmfkheohhfpiaaGreatDoor
