/- addr.set, CheckSet. span.before, Later, earlier. Spans.Or, Spans.Both. -/
import Derived.Test.YtajifionclpphaaGreatDoorSvB
import Derived.Shelf.Spec.BitsCarry
import Derived.Laws.AppendOwnNone
namespace Go.Proofs.YtajifionclpphaaGreatDoor
open Go.RowKit Go.Hw
/-- A row of prefixes that is the least one of a set. -/
structure SetIs (P : List Pf) (S : List Sn) : Prop where
  ok : ∀ p ∈ P, okP p
  map : P.map bkP = preS S
  norm : NormS S
  fam : ∀ x ∈ S, famOk x
theorem SetIs.len {P : List Pf} {S : List Sn} (h : SetIs P S) : P.length = (preS S).length := by rw [← h.map, List.length_map]
theorem okR_fam {R : List Rg} (h : ∀ r ∈ R, okR r) : ∀ x ∈ R.map rgS, famOk x := by
  intro x hx
  obtain ⟨r, hr, rfl⟩ := List.mem_map.1 hx
  exact (rgS_fam (h r hr)).1
/-- Two rows of one set are one row. -/
theorem SetIs.eq {P Q : List Pf} {S : List Sn} (h : SetIs P S) (k : SetIs Q S) : P = Q := by
  have e : P.map bkP = Q.map bkP := h.map.trans k.map.symm
  have hl : P.length = Q.length := by have := congrArg List.length e; simpa using this
  refine List.ext_getElem hl fun i h1 h2 => ?_
  refine bkP_inj (h.ok _ (List.getElem_mem h1)) (k.ok _ (List.getElem_mem h2)) ?_
  have := congrArg (fun l => l[i]?) e
  simp only [List.getElem?_map, List.getElem?_eq_getElem h1, List.getElem?_eq_getElem h2, Option.map_some, Option.some.injEq] at this
  exact this
theorem set_of {R : List Rg} (ho : ∀ r ∈ R, okR r) (hn : NormS (R.map rgS)) {P : List Pf} (hp : ∀ p ∈ P, okP p) (hm : P.map bkP = preS (R.map rgS)) : SetIs P (R.map rgS) := ⟨hp, hm, hn, okR_fam ho⟩
/-- The ranges of a right row are the set. -/
theorem SetIs.ranges {P : List Pf} {S : List Sn} {R : List Rg} (h : SetIs P S) (k : SetR R (P.map bkP)) : R.map rgS = S :=
  norm_eq k.norm h.norm fun n => (k.has n).trans (by rw [h.map]; exact preS_has n)
theorem SetIs.sorted {P : List Pf} {S : List Sn} (h : SetIs P S) {i : Nat} (hi : i + 1 < P.length) : keyA (adP (P.getD i noPf)) < keyA (adP (P.getD (i + 1) noPf)) := by
  have h1 := preS_sorted h.norm
  rw [← h.map, List.pairwise_map] at h1
  have h2 := List.pairwise_iff_getElem.1 h1 i (i + 1) (by omega) hi (by omega)
  rw [List.getD_eq_getElem?_getD, List.getElem?_eq_getElem (by omega), List.getD_eq_getElem?_getD, List.getElem?_eq_getElem hi]
  have h3 := Nat.two_pow_pos (bkP (P[i]'(by omega))).2
  have h4 : keyA (adP (P[i]'(by omega))) = (bkP (P[i]'(by omega))).1 := rfl
  have h5 : keyA (adP (P[i + 1]'hi)) = (bkP (P[i + 1]'hi)).1 := rfl
  simp only [Option.getD_some]
  omega
set_option maxRecDepth 100000 in
set_option maxHeartbeats 1000000 in
theorem addrCompare_any (s : Bool) (h l : Int) (s' : Bool) (h' l' : Int) (w : World) :
    Calls Tryz.prog 42 #[.agg #[.bool s, .int .u64 h, .int .u64 l], .agg #[.bool s', .int .u64 h', .int .u64 l']] w fun e w' => e = .returned (.int .i64 (spanC s h l s' h' l')) ∧ Below w.heap.size w w' := by
  have HB := Lib.hid (((Below.refl w.heap.size w).alloc (Nat.le_refl _) (addrBox s h l)).alloc (by simp) (addrBox s' h' l'))
  have hcm := fun W => spanCompare_any s h l s' h' l' W
  go_enter Tryz.func42, Tryz.ntmps42
  go_wp2_with fail
  unfold addrBox at HB
  refine (hcm _).mono ?_
  rintro e W2 ⟨rfl, hb2⟩
  have HB2 := Lib.hid (HB.out.trans (hb2.mono HB.out.size))
  clear hb2 hcm HB
  go_wp2_with fail
  go_ret
  exact ⟨rfl, HB2.out⟩
/-- What an operation over sets hands back. -/
def SetOut (w : World) (T : List Sn) (e : Ending) (w' : World) : Prop :=
  ∃ v c P, e = .returned (.tuple #[v, .int .i64 c]) ∧ pxOwn w' w.heap.size v P ∧ Below w.heap.size w w' ∧ ((c = 0 ∧ SetIs P T ∧ (preS T).length ≤ 1000) ∨ (c = 2 ∧ P = [] ∧ 1000 < (preS T).length))
set_option maxRecDepth 100000 in
set_option maxHeartbeats 1000000 in
theorem set_any (A : Option Addr) (cap : Nat) (R : List Rg) (w : World) (h : rgAt w A R) (hok : ∀ r ∈ R, okR r) (hn : NormS (R.map rgS)) (hl : (preS (R.map rgS)).length ≤ 1000000) (hl2 : R.length ≤ 100000) :
    Calls Tryz.prog 38 #[.slice A R.length cap] w fun e w' => SetOut w (R.map rgS) e w' := by
  have hp := prefixes_any A cap R w h hok hl hl2
  have HOK := Lib.hid hok
  have HN := Lib.hid hn
  clear h hok hl hl2 hn
  go_enter Tryz.func38, Tryz.ntmps38
  go_wp2_with fail
  refine hp.mono ?_
  rintro e w1 ⟨v, P, rfl, ho, hpo, hpm, hb⟩
  have HS := Lib.hid (set_of HOK.out HN.out hpo hpm)
  have HO := Lib.hid ho
  have HB := Lib.hid hb
  obtain ⟨A3, c3, rfl, -⟩ := rw_at (d := noPf) pxC_len ho
  have hln : P.length = (preS (R.map rgS)).length := HS.out.len
  have HLN := Lib.hid hln
  clear ho hpo hpm hb hln hp
  by_cases hc : 1000 < P.length
  · have hd : decide ((1000 : Int) < (P.length : Int)) = true := by simp; omega
    go_wp2_with fail
    go_ret2
    exact ⟨_, _, [], rfl, World.ownsRow_nil _ _ _ _, HB.out, .inr ⟨rfl, rfl, by have := HLN.out; omega⟩⟩
  · have hd : decide ((1000 : Int) < (P.length : Int)) = false := by simp; omega
    go_wp2_with fail
    go_ret2
    exact ⟨_, _, P, rfl, HO.out, HB.out, .inl ⟨rfl, HS.out, by have := HLN.out; omega⟩⟩
set_option maxRecDepth 100000 in
set_option maxHeartbeats 1000000 in
theorem checkSet_any (A : Option Addr) (cap : Nat) (L : List Pf) (S : List Sn) (w : World) (h : pxAt w A L) (hs : SetIs L S) (hl : L.length ≤ 1000) :
    Calls Tryz.prog 33 #[.slice A L.length cap] w fun e w' => e = .returned (.int .i64 0) ∧ Below w.heap.size w w' := by
  have HA := Lib.hid h
  have HS := Lib.hid hs
  have hd0 : decide ((1000 : Int) < (L.length : Int)) = false := by simp; omega
  clear h hs
  go_enter Tryz.func33, Tryz.ntmps33
  go_wp2_with fail
  go_loopw [3, 4, 5, 11] (fun _ _ _ v11 wr => ∃ k : Nat, k ≤ L.length ∧ v11 = .int .i64 k ∧ Below w.heap.size w wr) (fun _ _ _ v11 _ => L.length - (intOf v11).toNat)
  case atStart => exact ⟨0, Nat.zero_le _, rfl, Below.refl _ _⟩
  case round =>
    obtain ⟨k, hk, rfl, hb⟩ := hrel
    have HBk := Lib.hid hb
    by_cases hlt : k < L.length
    · obtain ⟨g5, off, hA, hgB, hcc⟩ := (HA.out.below hb) k hlt
      obtain ⟨c0, c1, c2, c3⟩ := px_cells hcc
      have hrx := HS.out.ok (L.getD k noPf) (rw_mem hlt)
      have hch := fun W => checkPrefix_any (L.getD k noPf).six (L.getD k noPf).hi (L.getD k noPf).lo (L.getD k noPf).bits W hrx.1.1 hrx.1.2.1
      rw [pfS_right hrx] at hch
      have hprev : 0 < k → ∃ y, okP y ∧ keyA (adP y) < keyA (adP (L.getD k noPf)) ∧ RwCells wr g5 (off + (k - 1) * 4) (pxC y) := fun h0 => by
        obtain ⟨g6, off6, e6, -, hc6⟩ := (HA.out.below hb) (k - 1) (by omega)
        rw [hA] at e6
        injection e6 with e6
        simp only [Addr.mk.injEq, and_true] at e6
        obtain ⟨rfl, rfl⟩ := e6
        have := HS.out.sorted (i := k - 1) (by omega)
        rw [show k - 1 + 1 = k by omega] at this
        exact ⟨_, HS.out.ok _ (rw_mem (by omega)), this, hc6⟩
      generalize L.getD k noPf = x at *
      have HRX := Lib.hid hrx
      have hd : decide ((k : Int) < (L.length : Int)) = true := by simp; omega
      have HBB := Lib.hid (hb.alloc hb.size (.cells #[.bool x.six, .int .u64 x.hi, .int .u64 x.lo, .int .i64 x.bits] 48 (0, 0)))
      have HNE := Lib.hid (heap_alloc_new wr (.cells #[.bool x.six, .int .u64 x.hi, .int .u64 x.lo, .int .i64 x.bits] 48 (0, 0)))
      have HGB := Lib.hid hgB
      have HAB := Lib.hid ((Below.refl wr.heap.size wr).alloc (Nat.le_refl _) (.cells #[.bool x.six, .int .u64 x.hi, .int .u64 x.lo, .int .i64 x.bits] 48 (0, 0)))
      clear hcc hrx
      subst hA
      go_upto_region 6 with (fail)
      generalize World.alloc wr _ = W2 at HBB HNE HAB ⊢
      obtain ⟨nb, hnb⟩ : ∃ nb, wr.heap.size = nb := ⟨_, rfl⟩
      rw [hnb] at HNE ⊢
      have HNB := Lib.hid hnb
      obtain ⟨⟨d0, d1, d2, d3⟩, -⟩ := res4 HNE.out
      clear c0 c1 c2 c3 hb hnb
      go_wp2_with fail
      refine (hch W2).mono ?_
      rintro e w3 ⟨rfl, hb3⟩
      have HB3 := Lib.hid (HBB.out.trans (hb3.mono HBB.out.size))
      have HA3 := Lib.hid (HAB.out.trans (hb3.mono HAB.out.size))
      have HN3 := Lib.hid ((hb3.block _ (lt_of_block HNE.out)).trans HNE.out)
      obtain ⟨⟨e0, e1, e2, e3⟩, -⟩ := res4 HN3.out
      have hn3 := lt_of_block HN3.out
      clear hb3 d0 d1 d2 d3 hch HNE HBB HAB
      go_upto_region 9 with (fail)
      go_cut [34] from 21 to 34 (fun v34 wc => v34 = .bool false ∧ Below w3.heap.size w3 wc)
      case first =>
        by_cases h0 : 0 < k
        · obtain ⟨y, hy, ho, hc⟩ := hprev h0
          have hcm := fun W => addrCompare_any y.six y.hi y.lo x.six x.hi x.lo W
          have hkc := (spanC_key (x := adP y) (y := adP x) hy.1 HRX.out.1).1.2 ho
          have hkc2 : spanC y.six y.hi y.lo x.six x.hi x.lo < 0 := hkc
          generalize spanC y.six y.hi y.lo x.six x.hi x.lo = o at *
          have ho1 : decide ((0 : Int) ≤ o) = false := by simp; omega
          have hk0 : decide ((0 : Int) < (k : Int)) = true := by simp; omega
          obtain ⟨km, hkm⟩ : ∃ km : Nat, k - 1 = km := ⟨_, rfl⟩
          rw [hkm] at hc
          have s1 : IntKind.i64.wrap ((k : Int) - 1) = (km : Int) := (IntWalk.i64_in _ (by omega)).trans (by omega)
          have s4 : (km : Int) < (L.length : Int) := by omega
          have hc3 := hc.keep (w' := w3) (fun p hp => HA3.out.cell (by rw [hp]; exact HGB.out))
          obtain ⟨y0, y1, y2, y3⟩ := px_cells hc3
          have hg3 : g5 < w3.heap.size := by have := HA3.out.size; have := HGB.out; omega
          clear hc hc3 hprev hy ho hkc hkc2 hkm
          -- R9
          refine wp_region_exact 13 (fun f' => ⟨#[.slice (some ⟨g5, off, none⟩) L.length cap, undef, u2, .int .i64 k, .pointer (some ⟨nb, 0, none⟩), .int .i64 0, .slice (some ⟨g5, off, none⟩) L.length cap, .int .i64 L.length, .bool false, .slice (some ⟨g5, off, none⟩) L.length cap, .int .i64 L.length, .int .i64 k, .bool true, .int .i64 k, .pointer (some ⟨g5, off + k * 4, none⟩), .agg #[Value.bool x.six, Value.int IntKind.u64 x.hi, Value.int IntKind.u64 x.lo, Value.int IntKind.i64 x.bits], .agg #[Value.bool x.six, Value.int IntKind.u64 x.hi, Value.int IntKind.u64 x.lo, Value.int IntKind.i64 x.bits], .int .i64 0, .int .i64 0, .bool false, u20, f' 0, f' 1, f' 2, f' 3, f' 4, f' 5, f' 6, f' 7, f' 8, f' 9, f' 10, f' 11, f' 12, u34, u35, undef, undef, undef, undef, undef, undef], []⟩) (fun i => match i with | 0 => .int .i64 k | 1 => .bool true | 2 => .bool true | 3 => .slice (some ⟨g5, off, none⟩) L.length cap | 4 => .int .i64 k | 5 => .int .i64 km | 6 => .pointer (some ⟨g5, off + km * 4, none⟩) | 7 => .pointer (some ⟨g5, off + km * 4, none⟩) | 8 => .agg #[.bool y.six, .int .u64 y.hi, .int .u64 y.lo] | 9 => .pointer (some ⟨nb, 0, none⟩) | 10 => .agg #[.bool x.six, .int .u64 x.hi, .int .u64 x.lo] | 11 => .int .i64 o | 12 => .bool false | _ => undef) (fun lb w' => Hid (Below w3.heap.size w3 w')) (fun i => match i with | 0 => u21 | 1 => u22 | 2 => u23 | 3 => u24 | 4 => u25 | 5 => u26 | 6 => u27 | 7 => u28 | 8 => u29 | 9 => u30 | 10 => u31 | 11 => u32 | 12 => u33 | _ => undef) 24 (show Tryz.prog.follows .mixedOrders = true from by kernel_rfl) (by kernel_rfl) ?_ ?_ (Lib.hid (Below.refl _ _).drew)
          · intro i op hi ho lb f' w' hl hS hd
            have hcase : i = 0 ∨ i = 1 ∨ i = 2 ∨ i = 3 ∨ i = 4 ∨ i = 5 ∨ i = 6 ∨ i = 7 ∨ i = 8 ∨ i = 9 ∨ i = 10 ∨ i = 11 ∨ i = 12 := by omega
            rcases hcase with rfl | rfl | rfl | rfl | rfl | rfl | rfl | rfl | rfl | rfl | rfl | rfl | rfl <;> (replace ho := Option.some.inj ho; subst ho)
            · refine OpStep.of rfl ?_
              unfold Oper.wp
              go_simp
              first | exact ⟨by first | (simp [upd]; done) | (simp [upd]; omega), hS⟩ | (simp [upd]; done) | (simp [upd]; omega)
            · have e0 : f' 0 = .int .i64 k := (hd ⟨0, .data⟩ (by simp) rfl).2
              refine OpStep.of rfl ?_
              unfold Oper.wp
              go_simp
              first | exact ⟨by first | (simp [upd, e0]; done) | (simp [upd, e0]; omega), hS⟩ | (simp [upd, e0]; done) | (simp [upd, e0]; omega)
            · have e1 : f' 1 = .bool true := (hd ⟨1, .data⟩ (by simp) rfl).2
              refine OpStep.of rfl ?_
              unfold Oper.wp
              go_simp
              first | exact ⟨by first | (simp [upd, e1]; done) | (simp [upd, e1]; omega), hS⟩ | (simp [upd, e1]; done) | (simp [upd, e1]; omega)
            · refine OpStep.of (by have e2 : f' 2 = .bool true := (hd ⟨2, .guard⟩ (by simp) rfl).2; simp [Region.wanted, yielded, e2]) ?_
              unfold Oper.wp
              go_simp
              first | exact ⟨by first | (simp [upd]; done) | (simp [upd]; omega), hS⟩ | (simp [upd]; done) | (simp [upd]; omega)
            · refine OpStep.of (by have e2 : f' 2 = .bool true := (hd ⟨2, .guard⟩ (by simp) rfl).2; simp [Region.wanted, yielded, e2]) ?_
              unfold Oper.wp
              go_simp
              first | exact ⟨by first | (simp [upd]; done) | (simp [upd]; omega), hS⟩ | (simp [upd]; done) | (simp [upd]; omega)
            · have e4 : f' 4 = .int .i64 k := (hd ⟨4, .data⟩ (by simp) rfl).2
              refine OpStep.of (by have e2 : f' 2 = .bool true := (hd ⟨2, .guard⟩ (by simp) rfl).2; simp [Region.wanted, yielded, e2]) ?_
              unfold Oper.wp
              go_simp
              first | exact ⟨by first | (simp [upd, e4]; done) | (simp [upd, e4]; omega), hS⟩ | (simp [upd, e4]; done) | (simp [upd, e4]; omega)
            · have e3 : f' 3 = .slice (some ⟨g5, off, none⟩) L.length cap := (hd ⟨3, .data⟩ (by simp) rfl).2
              have e5 : f' 5 = .int .i64 km := (hd ⟨5, .data⟩ (by simp) rfl).2
              refine OpStep.of (by have e2 : f' 2 = .bool true := (hd ⟨2, .guard⟩ (by simp) rfl).2; simp [Region.wanted, yielded, e2]) ?_
              unfold Oper.wp
              go_simp
              first | exact ⟨by first | (simp [upd, e3, e5]; done) | (simp [upd, e3, e5]; omega), hS⟩ | (simp [upd, e3, e5]; done) | (simp [upd, e3, e5]; omega)
            · have e6 : f' 6 = .pointer (some ⟨g5, off + km * 4, none⟩) := (hd ⟨6, .data⟩ (by simp) rfl).2
              refine OpStep.of (by have e2 : f' 2 = .bool true := (hd ⟨2, .guard⟩ (by simp) rfl).2; simp [Region.wanted, yielded, e2]) ?_
              unfold Oper.wp
              go_simp
              first | exact ⟨by first | (simp [upd, e6]; done) | (simp [upd, e6]; omega), hS⟩ | (simp [upd, e6]; done) | (simp [upd, e6]; omega)
            · have e7 : f' 7 = .pointer (some ⟨g5, off + km * 4, none⟩) := (hd ⟨7, .data⟩ (by simp) rfl).2
              refine OpStep.of (by have e2 : f' 2 = .bool true := (hd ⟨2, .guard⟩ (by simp) rfl).2; simp [Region.wanted, yielded, e2]) ?_
              have y0' : w'.cell? ⟨g5, off + km * 4, none⟩ = some (.bool y.six) := (hS.out.cell (p := ⟨g5, _, none⟩) hg3).trans y0
              have y1' : w'.cell? ⟨g5, off + km * 4 + 1, none⟩ = some (.int .u64 y.hi) := (hS.out.cell (p := ⟨g5, _, none⟩) hg3).trans y1
              have y2' : w'.cell? ⟨g5, off + km * 4 + 2, none⟩ = some (.int .u64 y.lo) := (hS.out.cell (p := ⟨g5, _, none⟩) hg3).trans y2
              unfold Oper.wp
              go_simp
              first | exact ⟨by first | (simp [upd, e7]; done) | (simp [upd, e7]; omega), hS⟩ | (simp [upd, e7]; done) | (simp [upd, e7]; omega)
            · refine OpStep.of (by have e2 : f' 2 = .bool true := (hd ⟨2, .guard⟩ (by simp) rfl).2; simp [Region.wanted, yielded, e2]) ?_
              unfold Oper.wp
              go_simp
              first | exact ⟨by first | (simp [upd]; done) | (simp [upd]; omega), hS⟩ | (simp [upd]; done) | (simp [upd]; omega)
            · have e9 : f' 9 = .pointer (some ⟨nb, 0, none⟩) := (hd ⟨9, .data⟩ (by simp) rfl).2
              refine OpStep.of (by have e2 : f' 2 = .bool true := (hd ⟨2, .guard⟩ (by simp) rfl).2; simp [Region.wanted, yielded, e2]) ?_
              have e0' : w'.cell? ⟨nb, 0, none⟩ = some (.bool x.six) := (hS.out.cell (p := ⟨nb, _, none⟩) hn3).trans e0
              have e1' : w'.cell? ⟨nb, 1, none⟩ = some (.int .u64 x.hi) := (hS.out.cell (p := ⟨nb, _, none⟩) hn3).trans e1
              have e2' : w'.cell? ⟨nb, 2, none⟩ = some (.int .u64 x.lo) := (hS.out.cell (p := ⟨nb, _, none⟩) hn3).trans e2
              unfold Oper.wp
              go_simp
              first | exact ⟨by first | (simp [upd, e9]; done) | (simp [upd, e9]; omega), hS⟩ | (simp [upd, e9]; done) | (simp [upd, e9]; omega)
            · have e8 : f' 8 = .agg #[.bool y.six, .int .u64 y.hi, .int .u64 y.lo] := (hd ⟨8, .data⟩ (by simp) rfl).2
              have e10 : f' 10 = .agg #[.bool x.six, .int .u64 x.hi, .int .u64 x.lo] := (hd ⟨10, .data⟩ (by simp) rfl).2
              refine OpStep.of (by have e2 : f' 2 = .bool true := (hd ⟨2, .guard⟩ (by simp) rfl).2; simp [Region.wanted, yielded, e2]) ?_
              unfold Oper.wp
              go_simp
              refine (hcm w').mono ?_
              rintro e w9 ⟨rfl, hb9⟩
              exact ⟨by simp [upd, e8, e10], Lib.hid (hS.out.trans (hb9.mono hS.out.size))⟩
            · have e11 : f' 11 = .int .i64 o := (hd ⟨11, .data⟩ (by simp) rfl).2
              refine OpStep.of (by have e2 : f' 2 = .bool true := (hd ⟨2, .guard⟩ (by simp) rfl).2; simp [Region.wanted, yielded, e2]) ?_
              unfold Oper.wp
              go_simp
              first | exact ⟨by first | (simp [upd, e11]; done) | (simp [upd, e11]; omega), hS⟩ | (simp [upd, e11]; done) | (simp [upd, e11]; omega)
          · intro op ho lb f' w' hd hS
            have e2 : f' 2 = .bool true := (hd 2 (by omega)).2
            have e12 : f' 12 = .bool false := (hd 12 (by omega)).2
            replace ho := Option.some.inj ho
            subst ho
            refine ⟨rfl, ?_⟩
            unfold Oper.wp
            go_simp
            first | (go_step; go_step; go_meet) | (go_step; go_meet) | go_meet | skip
            exact ⟨rfl, hS.out⟩
          -- END R9
        · have hk0 : decide ((0 : Int) < (k : Int)) = false := by simp; omega
          clear hprev
          -- R9N
          refine wp_region_exact 13 (fun f' => ⟨#[.slice (some ⟨g5, off, none⟩) L.length cap, undef, u2, .int .i64 k, .pointer (some ⟨nb, 0, none⟩), .int .i64 0, .slice (some ⟨g5, off, none⟩) L.length cap, .int .i64 L.length, .bool false, .slice (some ⟨g5, off, none⟩) L.length cap, .int .i64 L.length, .int .i64 k, .bool true, .int .i64 k, .pointer (some ⟨g5, off + k * 4, none⟩), .agg #[Value.bool x.six, Value.int IntKind.u64 x.hi, Value.int IntKind.u64 x.lo, Value.int IntKind.i64 x.bits], .agg #[Value.bool x.six, Value.int IntKind.u64 x.hi, Value.int IntKind.u64 x.lo, Value.int IntKind.i64 x.bits], .int .i64 0, .int .i64 0, .bool false, u20, f' 0, f' 1, f' 2, f' 3, f' 4, f' 5, f' 6, f' 7, f' 8, f' 9, f' 10, f' 11, f' 12, u34, u35, undef, undef, undef, undef, undef, undef], []⟩) (fun i => match i with | 0 => .int .i64 k | 1 => .bool false | 2 => .bool false | 3 => undef | 4 => undef | 5 => undef | 6 => undef | 7 => undef | 8 => undef | 9 => undef | 10 => undef | 11 => undef | 12 => undef | _ => undef) (fun lb w' => Hid (Below w3.heap.size w3 w')) (fun i => match i with | 0 => u21 | 1 => u22 | 2 => u23 | 3 => u24 | 4 => u25 | 5 => u26 | 6 => u27 | 7 => u28 | 8 => u29 | 9 => u30 | 10 => u31 | 11 => u32 | 12 => u33 | _ => undef) 24 (show Tryz.prog.follows .mixedOrders = true from by kernel_rfl) (by kernel_rfl) ?_ ?_ (Lib.hid (Below.refl _ _).drew)
          · intro i op hi ho lb f' w' hl hS hd
            have hcase : i = 0 ∨ i = 1 ∨ i = 2 ∨ i = 3 ∨ i = 4 ∨ i = 5 ∨ i = 6 ∨ i = 7 ∨ i = 8 ∨ i = 9 ∨ i = 10 ∨ i = 11 ∨ i = 12 := by omega
            rcases hcase with rfl | rfl | rfl | rfl | rfl | rfl | rfl | rfl | rfl | rfl | rfl | rfl | rfl <;> (replace ho := Option.some.inj ho; subst ho)
            · refine OpStep.of rfl ?_
              unfold Oper.wp
              go_simp
              first | exact ⟨by first | (simp [upd]; done) | (simp [upd]; omega), hS⟩ | (simp [upd]; done) | (simp [upd]; omega)
            · have e0 : f' 0 = .int .i64 k := (hd ⟨0, .data⟩ (by simp) rfl).2
              refine OpStep.of rfl ?_
              unfold Oper.wp
              go_simp
              first | exact ⟨by first | (simp [upd, e0]; done) | (simp [upd, e0]; omega), hS⟩ | (simp [upd, e0]; done) | (simp [upd, e0]; omega)
            · have e1 : f' 1 = .bool false := (hd ⟨1, .data⟩ (by simp) rfl).2
              refine OpStep.of rfl ?_
              unfold Oper.wp
              go_simp
              first | exact ⟨by first | (simp [upd, e1]; done) | (simp [upd, e1]; omega), hS⟩ | (simp [upd, e1]; done) | (simp [upd, e1]; omega)
            · refine OpStep.not (by have e2 : f' 2 = .bool false := (hd ⟨2, .guard⟩ (by simp) rfl).2; simp [Region.wanted, yielded, e2]) ?_
              exact ⟨rfl, hS⟩
            · refine OpStep.not (by have e2 : f' 2 = .bool false := (hd ⟨2, .guard⟩ (by simp) rfl).2; simp [Region.wanted, yielded, e2]) ?_
              exact ⟨rfl, hS⟩
            · refine OpStep.not (by have e2 : f' 2 = .bool false := (hd ⟨2, .guard⟩ (by simp) rfl).2; simp [Region.wanted, yielded, e2]) ?_
              exact ⟨rfl, hS⟩
            · refine OpStep.not (by have e2 : f' 2 = .bool false := (hd ⟨2, .guard⟩ (by simp) rfl).2; simp [Region.wanted, yielded, e2]) ?_
              exact ⟨rfl, hS⟩
            · refine OpStep.not (by have e2 : f' 2 = .bool false := (hd ⟨2, .guard⟩ (by simp) rfl).2; simp [Region.wanted, yielded, e2]) ?_
              exact ⟨rfl, hS⟩
            · refine OpStep.not (by have e2 : f' 2 = .bool false := (hd ⟨2, .guard⟩ (by simp) rfl).2; simp [Region.wanted, yielded, e2]) ?_
              exact ⟨rfl, hS⟩
            · refine OpStep.not (by have e2 : f' 2 = .bool false := (hd ⟨2, .guard⟩ (by simp) rfl).2; simp [Region.wanted, yielded, e2]) ?_
              exact ⟨rfl, hS⟩
            · refine OpStep.not (by have e2 : f' 2 = .bool false := (hd ⟨2, .guard⟩ (by simp) rfl).2; simp [Region.wanted, yielded, e2]) ?_
              exact ⟨rfl, hS⟩
            · refine OpStep.not (by have e2 : f' 2 = .bool false := (hd ⟨2, .guard⟩ (by simp) rfl).2; simp [Region.wanted, yielded, e2]) ?_
              exact ⟨rfl, hS⟩
            · refine OpStep.not (by have e2 : f' 2 = .bool false := (hd ⟨2, .guard⟩ (by simp) rfl).2; simp [Region.wanted, yielded, e2]) ?_
              exact ⟨rfl, hS⟩
          · intro op ho lb f' w' hd hS
            have e2 : f' 2 = .bool false := (hd 2 (by omega)).2
            replace ho := Option.some.inj ho
            subst ho
            refine ⟨rfl, ?_⟩
            unfold Oper.wp
            go_simp
            first | (go_step; go_step; go_meet) | (go_step; go_meet) | go_meet | skip
            exact ⟨rfl, hS.out⟩
          -- END R9N
      case rest =>
      obtain ⟨rfl, hb9⟩ := hcut
      have HB9 := Lib.hid (HB3.out.trans (hb9.mono HB3.out.size))
      clear hb9 e0 e1 e2 e3
      go_wp2_with fail
      exact ⟨⟨k + 1, by omega, by simp, HB9.out⟩, by simp [intOf]; omega⟩
    · have : k = L.length := by omega
      subst this
      have hof := spanOf_any A cap L wr (HA.out.below hb) HS.out.ok (by omega)
      clear hb
      go_wp2_with fail
      refine hof.mono ?_
      rintro e w1 ⟨v1, R, rfl, ho1, hr1, hl1, hb1⟩
      have HB1 := Lib.hid (HBk.out.trans (hb1.mono HBk.out.size))
      have hA1 := (HA.out.below HBk.out).below hb1
      have HA1 := Lib.hid hA1
      obtain ⟨A2, c2, rfl, ha2⟩ := rw_at (d := noRg) rgC_len ho1
      have hrs := HS.out.ranges hr1
      have HRS := Lib.hid hrs
      have hpx := prefixes_any A2 c2 R w1 ha2 hr1.ok (by rw [hrs, ← HS.out.len]; omega) (by omega)
      clear hof ho1 hr1 hl1 hb1 hA1 ha2 hrs
      go_wp2_with fail
      refine hpx.mono ?_
      rintro e w2 ⟨v2, P2, rfl, ho2, hp2, hm2, hb2⟩
      have HB2 := Lib.hid (HB1.out.trans (hb2.mono HB1.out.size))
      have hA2 := HA1.out.below hb2
      have hPL : P2 = L := SetIs.eq (S := S) ⟨hp2, by rw [hm2, HRS.out], HS.out.norm, HS.out.fam⟩ HS.out
      subst hPL
      obtain ⟨A4, c4, rfl, ha4⟩ := rw_at (d := noPf) pxC_len ho2
      have heq := px_equal A4 A c4 cap P2 w2 ha4 hA2 (by omega)
      clear hpx ho2 hp2 hm2 hb2 hA2 ha4
      go_wp2_with fail
      refine heq.mono ?_
      rintro e w3 ⟨rfl, hb3⟩
      have HB3 := Lib.hid (HB2.out.trans (hb3.mono HB2.out.size))
      clear heq hb3
      go_wp2_with fail
      go_ret
      exact ⟨rfl, HB3.out⟩
end Go.Proofs.YtajifionclpphaaGreatDoor

namespace Go.Proofs.YtajifionclpphaaGreatDoor
open Go.RowKit Go.Hw
def laterA (x y : Ad) : Ad := if keyA y < keyA x then x else y
def earlierA (x y : Ad) : Ad := if keyA x < keyA y then x else y
theorem laterA_key (x y : Ad) : keyA (laterA x y) = max (keyA x) (keyA y) ∧ (laterA x y = x ∨ laterA x y = y) := by
  unfold laterA
  split
  · exact ⟨by omega, .inl rfl⟩
  · exact ⟨by omega, .inr rfl⟩
theorem earlierA_key (x y : Ad) : keyA (earlierA x y) = min (keyA x) (keyA y) ∧ (earlierA x y = x ∨ earlierA x y = y) := by
  unfold earlierA
  split
  · exact ⟨by omega, .inl rfl⟩
  · exact ⟨by omega, .inr rfl⟩
/-- The address ahead of another one. -/
def bfH (h l : Int) : Int := if l = 0 then h - 1 else h
def bfL (l : Int) : Int := if l = 0 then 18446744073709551615 else l - 1
theorem bf_num {s : Bool} {h l : Int} (hf : AddrFine s h l) (h0 : 0 < nOf h l) : nOf (bfH h l) (bfL l) + 1 = nOf h l ∧ AddrFine s (bfH h l) (bfL l) := by
  obtain ⟨h1, h2, h3⟩ := hf
  unfold bfH bfL nOf AddrFine at *
  cases s
  · obtain ⟨h4, h5⟩ := h3 rfl
    refine ⟨?_, ?_, ?_, fun _ => ?_⟩ <;> (split <;> omega)
  · refine ⟨?_, ?_, ?_, fun e => by cases e⟩ <;> (split <;> omega)
theorem bf_key {x : Ad} (hx : fineA x) (h0 : 0 < nOf x.hi x.lo) : keyA ⟨x.six, bfH x.hi x.lo, bfL x.lo⟩ + 1 = keyA x ∧ fineA ⟨x.six, bfH x.hi x.lo, bfL x.lo⟩ := by
  obtain ⟨h1, h2⟩ := bf_num hx h0
  refine ⟨?_, h2⟩
  show keyN x.six (nOf (bfH x.hi x.lo) (bfL x.lo)) + 1 = keyN x.six (nOf x.hi x.lo)
  unfold keyN
  omega
theorem sub64_call (x : Nat) (w : World) : (callFunc 135 #[.int .u64 x, .int .u64 1, .int .u64 0]).run Tryz.prog w = .ok (.value (.tuple #[.int .u64 (((x + 18446744073709551616 - 1 - 0) % 18446744073709551616 : Nat) : Int), .int .u64 ((if x < 1 + 0 then 1 else 0 : Nat) : Int)])) w := by
  have := run_sub64 (P := Tryz.prog) x 1 0 (by omega) w
  rw [run_callFunc_extern Tryz.func135 (by kernel_rfl) (by kernel_rfl) (by kernel_rfl) (e := sub64Entry) (by kernel_rfl)]
  rw [show ((1 : Int)) = ((1 : Nat) : Int) from rfl, show ((0 : Int)) = ((0 : Nat) : Int) from rfl, this]
  rfl
set_option maxRecDepth 100000 in
set_option maxHeartbeats 1000000 in
theorem before_any (s : Bool) (h l : Int) (w : World) (uh : U64 h) (ul : U64 l) (h0 : 0 < nOf h l) :
    Calls Tryz.prog 85 #[.agg #[.bool s, .int .u64 h, .int .u64 l]] w fun e w' => e = .returned (.agg #[.bool s, .int .u64 (bfH h l), .int .u64 (bfL l)]) ∧ Below w.heap.size w w' := by
  have b0 : ((w.alloc (addrBox s h l)).alloc (addrBox false 0 0)).heap[w.heap.size]? = some (addrBox s h l) := (heap_alloc_old _ _ (by simp)).trans (heap_alloc_new w _)
  have b1 : ((w.alloc (addrBox s h l)).alloc (addrBox false 0 0)).heap[w.heap.size + 1]? = some (addrBox false 0 0) := by
    have := heap_alloc_new (w.alloc (addrBox s h l)) (addrBox false 0 0)
    simp only [Re_size] at this
    exact this
  have HB := Lib.hid (((Below.refl w.heap.size w).alloc (Nat.le_refl _) (addrBox s h l)).alloc (by simp) (addrBox false 0 0))
  obtain ⟨n, hn⟩ := Int.eq_ofNat_of_zero_le ul.1
  have hsb := fun W => sub64_call n W
  have hl2 := ul.2
  have HL : Hid ((((n + 18446744073709551616 - 1 - 0) % 18446744073709551616 : Nat) : Int) = bfL l) := Lib.hid (by unfold bfL; split <;> omega)
  have HH : Hid (IntKind.u64.wrap (h - ((if n < 1 + 0 then 1 else 0 : Nat) : Int)) = bfH h l) := Lib.hid (by
    unfold bfH
    unfold nOf at h0
    obtain ⟨u1, u2⟩ := uh
    by_cases hz : n < 1 + 0
    · rw [if_pos hz, if_pos (by omega)]
      exact IntWalk.u64_in _ (by omega)
    · rw [if_neg hz, if_neg (by omega)]
      simp
      exact IntWalk.u64_in _ (by omega))
  have hwr := HH.out
  have hlo := HL.out
  generalize (((n + 18446744073709551616 - 1 - 0) % 18446744073709551616 : Nat) : Int) = lo' at *
  generalize ((if n < 1 + 0 then 1 else 0 : Nat) : Int) = cy at *
  rw [hlo] at hsb
  rw [← hn] at hsb
  clear HL HH hlo hl2 hn ul h0 uh
  generalize bfH h l = nh at *
  generalize bfL l = nl at *
  unfold addrBox at b0 b1 HB
  obtain ⟨x0, x1, x2, f0, f1, f2⟩ := res3 b0
  obtain ⟨z0, z1, z2, g0, g1, g2⟩ := res3 b1
  go_enter Tryz.func85, Tryz.ntmps85
  go_wp2_with fail
  clear x0 x1 x2 f0 f1 f2 z0 z1 z2 g0 g1 g2
  have hb9 := ((Below.refl w.heap.size w).alloc (Nat.le_refl _) (addrBox s nh nl)).alloc (by simp) (addrBox s nh nl)
  have h9 : ((w.alloc (addrBox s nh nl)).alloc (addrBox s nh nl)).heap[w.heap.size + 1]? = some (addrBox s nh nl) := by
    have := heap_alloc_new (w.alloc (addrBox s nh nl)) (addrBox s nh nl)
    simp only [Re_size] at this
    exact this
  unfold addrBox at hb9 h9
  generalize World.alloc (World.alloc w _) _ = W9 at hb9 h9 ⊢
  obtain ⟨y0, y1, y2, -⟩ := res3 h9
  exact bodyPost_ret (v := .agg #[.bool s, .int .u64 nh, .int .u64 nl]) (by simp [results, Tryz.results85, go_sem, y0, y1, y2]) rfl ⟨rfl, hb9⟩
set_option maxRecDepth 100000 in
set_option maxHeartbeats 1000000 in
theorem later_any (x y : Ad) (w : World) (hx : fineA x) (hy : fineA y) :
    Calls Tryz.prog 83 #[.agg #[.bool x.six, .int .u64 x.hi, .int .u64 x.lo], .agg #[.bool y.six, .int .u64 y.hi, .int .u64 y.lo]] w fun e w' => e = .returned (.agg #[.bool (laterA x y).six, .int .u64 (laterA x y).hi, .int .u64 (laterA x y).lo]) ∧ Below w.heap.size w w' := by
  have b0 : (((w.alloc (addrBox x.six x.hi x.lo)).alloc (addrBox y.six y.hi y.lo)).alloc (addrBox false 0 0)).heap[w.heap.size]? = some (addrBox x.six x.hi x.lo) := (heap_alloc_old _ _ (by simp; omega)).trans ((heap_alloc_old _ _ (by simp)).trans (heap_alloc_new w _))
  have b1 : (((w.alloc (addrBox x.six x.hi x.lo)).alloc (addrBox y.six y.hi y.lo)).alloc (addrBox false 0 0)).heap[w.heap.size + 1]? = some (addrBox y.six y.hi y.lo) := by
    have := heap_alloc_new (w.alloc (addrBox x.six x.hi x.lo)) (addrBox y.six y.hi y.lo)
    simp only [Re_size] at this
    exact (heap_alloc_old _ _ (by simp)).trans this
  have b2 : (((w.alloc (addrBox x.six x.hi x.lo)).alloc (addrBox y.six y.hi y.lo)).alloc (addrBox false 0 0)).heap[w.heap.size + 1 + 1]? = some (addrBox false 0 0) := by
    have := heap_alloc_new ((w.alloc (addrBox x.six x.hi x.lo)).alloc (addrBox y.six y.hi y.lo)) (addrBox false 0 0)
    simp only [Re_size] at this
    exact this
  have HB := Lib.hid ((((Below.refl w.heap.size w).alloc (Nat.le_refl _) (addrBox x.six x.hi x.lo)).alloc (by simp) (addrBox y.six y.hi y.lo)).alloc (by simp; omega) (addrBox false 0 0))
  have hcm := fun W => spanCompare_any x.six x.hi x.lo y.six y.hi y.lo W
  have hkc := spanC_key hx hy
  have hkc1 : spanC x.six x.hi x.lo y.six y.hi y.lo < 0 ↔ keyA x < keyA y := hkc.1
  have hkc2 : 0 < spanC x.six x.hi x.lo y.six y.hi y.lo ↔ keyA y < keyA x := hkc.2.2
  generalize spanC x.six x.hi x.lo y.six y.hi y.lo = c at *
  have HK := Lib.hid (And.intro hkc1 hkc2)
  unfold addrBox at b0 b1 b2 HB
  obtain ⟨x0, x1, x2, -⟩ := res3 b0
  obtain ⟨y0, y1, y2, -⟩ := res3 b1
  clear hkc hkc1 hkc2 hx hy
  go_enter Tryz.func83, Tryz.ntmps83
  go_wp2_with fail
  generalize hW : World.alloc _ _ = W at b0 b1 b2 x0 x1 x2 y0 y1 y2 ⊢
  have HBW : Hid (Below w.heap.size w W) := Lib.hid (by rw [← hW]; exact HB.out)
  clear hW HB
  have B0 := Lib.hid b0
  have B1 := Lib.hid b1
  have B2 := Lib.hid b2
  clear b0 b1 b2
  refine (hcm W).mono ?_
  rintro e w1 ⟨rfl, hb1⟩
  have HF := Lib.hid (HBW.out.trans (hb1.mono HBW.out.size))
  have C0 := Lib.hid ((hb1.block _ (lt_of_block B0.out)).trans B0.out)
  have C1 := Lib.hid ((hb1.block _ (lt_of_block B1.out)).trans B1.out)
  have C2 := Lib.hid ((hb1.block _ (lt_of_block B2.out)).trans B2.out)
  obtain ⟨z0, z1, z2, g0, g1, g2⟩ := res3 C2.out
  clear hb1 hcm x0 x1 x2 y0 y1 y2 B0 B1 B2
  by_cases hc : 0 < c
  · have hd : decide ((0 : Int) < c) = true := by simp; omega
    obtain ⟨x0, x1, x2, -⟩ := res3 C0.out
    have HC : Hid (laterA x y = x) := Lib.hid (by unfold laterA; rw [if_pos (by have := HK.out; omega)])
    clear HK
    go_wp2_with fail
    clear x0 x1 x2 z0 z1 z2 g0 g1 g2
    generalize hW : World.setCell _ _ _ = W9
    have hr := re3 C2.out hW
    obtain ⟨y0, y1, y2, -⟩ := res3 hr.blk
    refine bodyPost_ret (v := .agg #[.bool x.six, .int .u64 x.hi, .int .u64 x.lo]) (by simp [results, Tryz.results83, go_sem, y0, y1, y2]) rfl ⟨by rw [HC.out], hr.below HF.out (by omega)⟩
  · have hd : decide ((0 : Int) < c) = false := by simp; omega
    obtain ⟨x0, x1, x2, -⟩ := res3 C1.out
    have HC : Hid (laterA x y = y) := Lib.hid (by unfold laterA; rw [if_neg (by have := HK.out; omega)])
    clear HK
    go_wp2_with fail
    clear x0 x1 x2 z0 z1 z2 g0 g1 g2
    generalize hW : World.setCell _ _ _ = W9
    have hr := re3 C2.out hW
    obtain ⟨y0, y1, y2, -⟩ := res3 hr.blk
    refine bodyPost_ret (v := .agg #[.bool y.six, .int .u64 y.hi, .int .u64 y.lo]) (by simp [results, Tryz.results83, go_sem, y0, y1, y2]) rfl ⟨by rw [HC.out], hr.below HF.out (by omega)⟩
set_option maxRecDepth 100000 in
set_option maxHeartbeats 1000000 in
theorem earlier_any (x y : Ad) (w : World) (hx : fineA x) (hy : fineA y) :
    Calls Tryz.prog 84 #[.agg #[.bool x.six, .int .u64 x.hi, .int .u64 x.lo], .agg #[.bool y.six, .int .u64 y.hi, .int .u64 y.lo]] w fun e w' => e = .returned (.agg #[.bool (earlierA x y).six, .int .u64 (earlierA x y).hi, .int .u64 (earlierA x y).lo]) ∧ Below w.heap.size w w' := by
  have b0 : (((w.alloc (addrBox x.six x.hi x.lo)).alloc (addrBox y.six y.hi y.lo)).alloc (addrBox false 0 0)).heap[w.heap.size]? = some (addrBox x.six x.hi x.lo) := (heap_alloc_old _ _ (by simp; omega)).trans ((heap_alloc_old _ _ (by simp)).trans (heap_alloc_new w _))
  have b1 : (((w.alloc (addrBox x.six x.hi x.lo)).alloc (addrBox y.six y.hi y.lo)).alloc (addrBox false 0 0)).heap[w.heap.size + 1]? = some (addrBox y.six y.hi y.lo) := by
    have := heap_alloc_new (w.alloc (addrBox x.six x.hi x.lo)) (addrBox y.six y.hi y.lo)
    simp only [Re_size] at this
    exact (heap_alloc_old _ _ (by simp)).trans this
  have b2 : (((w.alloc (addrBox x.six x.hi x.lo)).alloc (addrBox y.six y.hi y.lo)).alloc (addrBox false 0 0)).heap[w.heap.size + 1 + 1]? = some (addrBox false 0 0) := by
    have := heap_alloc_new ((w.alloc (addrBox x.six x.hi x.lo)).alloc (addrBox y.six y.hi y.lo)) (addrBox false 0 0)
    simp only [Re_size] at this
    exact this
  have HB := Lib.hid ((((Below.refl w.heap.size w).alloc (Nat.le_refl _) (addrBox x.six x.hi x.lo)).alloc (by simp) (addrBox y.six y.hi y.lo)).alloc (by simp; omega) (addrBox false 0 0))
  have hcm := fun W => spanCompare_any x.six x.hi x.lo y.six y.hi y.lo W
  have hkc := spanC_key hx hy
  have hkc1 : spanC x.six x.hi x.lo y.six y.hi y.lo < 0 ↔ keyA x < keyA y := hkc.1
  have hkc2 : 0 < spanC x.six x.hi x.lo y.six y.hi y.lo ↔ keyA y < keyA x := hkc.2.2
  generalize spanC x.six x.hi x.lo y.six y.hi y.lo = c at *
  have HK := Lib.hid (And.intro hkc1 hkc2)
  unfold addrBox at b0 b1 b2 HB
  obtain ⟨x0, x1, x2, -⟩ := res3 b0
  obtain ⟨y0, y1, y2, -⟩ := res3 b1
  clear hkc hkc1 hkc2 hx hy
  go_enter Tryz.func84, Tryz.ntmps84
  go_wp2_with fail
  generalize hW : World.alloc _ _ = W at b0 b1 b2 x0 x1 x2 y0 y1 y2 ⊢
  have HBW : Hid (Below w.heap.size w W) := Lib.hid (by rw [← hW]; exact HB.out)
  clear hW HB
  have B0 := Lib.hid b0
  have B1 := Lib.hid b1
  have B2 := Lib.hid b2
  clear b0 b1 b2
  refine (hcm W).mono ?_
  rintro e w1 ⟨rfl, hb1⟩
  have HF := Lib.hid (HBW.out.trans (hb1.mono HBW.out.size))
  have C0 := Lib.hid ((hb1.block _ (lt_of_block B0.out)).trans B0.out)
  have C1 := Lib.hid ((hb1.block _ (lt_of_block B1.out)).trans B1.out)
  have C2 := Lib.hid ((hb1.block _ (lt_of_block B2.out)).trans B2.out)
  obtain ⟨z0, z1, z2, g0, g1, g2⟩ := res3 C2.out
  clear hb1 hcm x0 x1 x2 y0 y1 y2 B0 B1 B2
  by_cases hc : c < 0
  · have hd : decide (c < (0 : Int)) = true := by simp; omega
    obtain ⟨x0, x1, x2, -⟩ := res3 C0.out
    have HC : Hid (earlierA x y = x) := Lib.hid (by unfold earlierA; rw [if_pos (by have := HK.out; omega)])
    clear HK
    go_wp2_with fail
    clear x0 x1 x2 z0 z1 z2 g0 g1 g2
    generalize hW : World.setCell _ _ _ = W9
    have hr := re3 C2.out hW
    obtain ⟨y0, y1, y2, -⟩ := res3 hr.blk
    refine bodyPost_ret (v := .agg #[.bool x.six, .int .u64 x.hi, .int .u64 x.lo]) (by simp [results, Tryz.results84, go_sem, y0, y1, y2]) rfl ⟨by rw [HC.out], hr.below HF.out (by omega)⟩
  · have hd : decide (c < (0 : Int)) = false := by simp; omega
    obtain ⟨x0, x1, x2, -⟩ := res3 C1.out
    have HC : Hid (earlierA x y = y) := Lib.hid (by unfold earlierA; rw [if_neg (by have := HK.out; omega)])
    clear HK
    go_wp2_with fail
    clear x0 x1 x2 z0 z1 z2 g0 g1 g2
    generalize hW : World.setCell _ _ _ = W9
    have hr := re3 C2.out hW
    obtain ⟨y0, y1, y2, -⟩ := res3 hr.blk
    refine bodyPost_ret (v := .agg #[.bool y.six, .int .u64 y.hi, .int .u64 y.lo]) (by simp [results, Tryz.results84, go_sem, y0, y1, y2]) rfl ⟨by rw [HC.out], hr.below HF.out (by omega)⟩
end Go.Proofs.YtajifionclpphaaGreatDoor

namespace Go.Proofs.YtajifionclpphaaGreatDoor
open Go.RowKit Go.Hw
/-- The ranges of a set. -/
structure RgsIs (R : List Rg) (S : List Sn) : Prop where
  ok : ∀ r ∈ R, okR r
  map : R.map rgS = S
  norm : NormS S
theorem RgsIs.fam {R : List Rg} {S : List Sn} (h : RgsIs R S) : ∀ x ∈ S, famOk x := by rw [← h.map]; exact okR_fam h.ok
/-- What an operation over ranges hands back. -/
def RgsOut (w : World) (p : Nat → Prop) (n : Nat) (e : Ending) (w' : World) : Prop :=
  ∃ v R S, e = .returned v ∧ rgOwn w' w.heap.size v R ∧ RgsIs R S ∧ (∀ k, hasS S k ↔ p k) ∧ R.length ≤ n ∧ Below w.heap.size w w'
end Go.Proofs.YtajifionclpphaaGreatDoor
