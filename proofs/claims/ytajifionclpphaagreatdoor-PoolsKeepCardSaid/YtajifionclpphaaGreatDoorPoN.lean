/- Stream.RightPool's part: a prefix drawn in a pool's prefix. -/
import Derived.Test.YtajifionclpphaaGreatDoorPoO
import Derived.Test.YtajifionclpphaaGreatDoorRgT
import Derived.Test.YtajifionclpphaaGreatDoorDrS
namespace Go.Proofs.YtajifionclpphaaGreatDoor
open Go.RowKit Go.Hw
/-- The prefixes of pools that are drawn. -/
def RpBase (pf : Pf) : Prop := (pf.six = false ∧ pf.hi = 0 ∧ pf.lo = 167772160 ∧ 24 ≤ pf.bits ∧ pf.bits ≤ 29) ∨ (pf.six = true ∧ pf.hi = 18230571291595767808 ∧ pf.lo = 0 ∧ 64 ≤ pf.bits ∧ pf.bits ≤ 124)
theorem RpBase.fine {pf : Pf} (h : RpBase pf) : 0 ≤ pf.lo ∧ pf.lo ≤ 167772160 ∧ 24 ≤ pf.bits ∧ pf.bits ≤ 124 ∧ pf.bits ≤ lenA pf.six ∧ lenA pf.six ≤ 128 ∧ ∀ z, pf.lo ≤ z ∧ z ≤ pf.lo + 60 → AddrFine pf.six pf.hi z := by
  rcases h with ⟨h1, h2, h3, h4, h5⟩ | ⟨h1, h2, h3, h4, h5⟩ <;> rw [h1, h2, h3]
  · exact ⟨by omega, by omega, by omega, by omega, by show pf.bits ≤ (32 : Int); omega, by decide, fun z hz => ⟨by omega, by omega, fun _ => ⟨rfl, by omega⟩⟩⟩
  · exact ⟨by omega, by omega, by omega, by omega, by show pf.bits ≤ (128 : Int); omega, by decide, fun z hz => ⟨by omega, by omega, fun h => by cases h⟩⟩
/-- What a part is. -/
def RpP (w : World) (b : Nat) (A : Option Addr) (cap : Nat) (l : List Int) (x : Int) (e : Ending) (w' : World) : Prop :=
  ∃ p : Pf, e = .returned (.agg #[.bool p.six, .int .u64 p.hi, .int .u64 p.lo, .int .i64 p.bits]) ∧ okP p ∧ StrTo w w' b A cap l x 30
set_option maxRecDepth 100000 in
set_option maxHeartbeats 8000000 in
theorem rpPart_any (b : Nat) (A : Option Addr) (cap : Nat) (l : List Int) (x : Int) (pf : Pf) (K L : Value) (pb sb lb : Nat) (w : World) (h : Str w b A cap l x) (hx : x < 1099511627000) (hp : RpBase pf)
    (hpb : w.heap[pb]? = some (plBox pf K L)) (hsb : w.heap[sb]? = some (.cells #[.pointer (some ⟨b, 0, none⟩)] 23 (0, 0))) (hlb : w.heap[lb]? = some (.cells #[.int .i64 (lenA pf.six)] 3 (0, 0))) (npb : b ≠ pb) (nsb : b ≠ sb) (nlb : b ≠ lb) :
    Calls Tryz.prog 51 #[.pointer (some ⟨pb, 0, none⟩), .pointer (some ⟨sb, 0, none⟩), .pointer (some ⟨lb, 0, none⟩)] w (RpP w b A cap l x) := by
  obtain ⟨hl0, hl1, hb0, hb1, hb2, hb3, hlo2⟩ := hp.fine
  unfold plBox at hpb
  have HPB := Lib.hid hpb
  have HSB := Lib.hid hsb
  have HLB := Lib.hid hlb
  have D0 := ((DS.start h).al #[.bool false, .int .u64 0, .int .u64 0, .int .i64 0] 48).al #[.bool pf.six, .int .u64 pf.hi, .int .u64 pf.lo] 30
  simp only [Re_size] at D0
  have lx := h.low
  have lp := lt_of_block hpb
  have p0 : w.cell? ⟨pb, 0, none⟩ = some (.bool pf.six) := cell_of hpb 0
  have p1 : w.cell? ⟨pb, 1, none⟩ = some (.int .u64 pf.hi) := cell_of hpb 1
  have p2 : w.cell? ⟨pb, 2, none⟩ = some (.int .u64 pf.lo) := cell_of hpb 2
  clear h hpb hsb hlb hp
  go_enter Tryz.func51, Tryz.ntmps51
  go_upto_region 2 with (fail)
  generalize World.alloc (World.alloc w _) _ = W at D0 ⊢
  clear p0 p1 p2
  -- R2
  refine wp_region_drawn 11 (fun f' => ⟨#[.pointer (some ⟨pb, 0, none⟩), .pointer (some ⟨sb, 0, none⟩), .pointer (some ⟨lb, 0, none⟩), .pointer (some ⟨w.heap.size, 0, none⟩), .pointer (some ⟨w.heap.size + 1, 0, none⟩), .pointer (some ⟨pb, 0, none⟩), .pointer (some ⟨pb, 0, none⟩), .agg #[.bool pf.six, .int .u64 pf.hi, .int .u64 pf.lo], f' 0, f' 1, f' 2, f' 3, f' 4, f' 5, f' 6, f' 7, f' 8, f' 9, f' 10, undef, undef, undef, undef, undef, undef, undef, undef, undef, undef], []⟩) (VL [VIs (.pointer (some ⟨w.heap.size + 1, 2, none⟩)), VIs (.int .u64 pf.lo), VIs (.pointer (some ⟨b, 0, none⟩)), VInt (fun z => 0 ≤ z ∧ z ≤ 15), VIs (.pointer (some ⟨b, 0, none⟩)), VBox b #[.int .i64 1, .int .i64 2, .int .i64 4] 3 3, VInt (· ∈ ([1, 2, 4] : List Int)), VInt (fun z => 0 ≤ z ∧ z ≤ 60), VVal (fun v => ∃ z : Int, (0 ≤ z ∧ z ≤ 60) ∧ v = .int .u64 z), VVal (fun v => ∃ z : Int, (pf.lo ≤ z ∧ z ≤ pf.lo + 60) ∧ v = .int .u64 z), VIs (.pointer (some ⟨w.heap.size + 1, 2, none⟩))]) (GD w W b A cap l x 0 [(w.heap.size + 1, #[.bool pf.six, .int .u64 pf.hi, .int .u64 pf.lo], 30), (w.heap.size, #[.bool false, .int .u64 0, .int .u64 0, .int .i64 0], 48)]) (fun w w' => w.grownBy w' (some b)) (fun _ => undef) (show Tryz.prog.follows .mixedOrders = true from by kernel_rfl) (by kernel_rfl) ?_ ?_ ?_ (GD.start D0)
  · exact fun i w w' v h hg => VL.stab (by
      intro p hp
      simp only [List.mem_cons, List.mem_nil_iff, or_false] at hp
      rcases hp with rfl | rfl | rfl | rfl | rfl | rfl | rfl | rfl | rfl | rfl | rfl <;> first | exact VIs.stab _ _ | exact VBox.stab _ _ _ _ | exact VInt.stab _ _ | exact VVal.stab _ _ | exact VStr.stab _ _ | exact VFlip.stab _ | exact VNew.stab _ _ _ _) i w w' v h hg
  · intro i op hi ho f' w' kk hkk hG hd
    have c0 : w'.cell? ⟨sb, 0, none⟩ = some (.pointer (some ⟨b, 0, none⟩)) := cell_of (gk hG.1.grown HSB.out nsb) 0
    have c1 : w'.cell? ⟨w.heap.size + 1, 2, none⟩ = some (.int .u64 pf.lo) := hG.1.cell 0 2 rfl rfl
    have z1 : w'.frozen? ⟨w.heap.size + 1, 2, none⟩ = false := hG.1.froz 0 2 rfl
    have HG := Lib.hid hG
    clear hG
    have hcase : i = 0 ∨ i = 1 ∨ i = 2 ∨ i = 3 ∨ i = 4 ∨ i = 5 ∨ i = 6 ∨ i = 7 ∨ i = 8 ∨ i = 9 ∨ i = 10 := by omega
    rcases hcase with rfl | rfl | rfl | rfl | rfl | rfl | rfl | rfl | rfl | rfl | rfl <;> (replace ho := Option.some.inj ho; subst ho)
    · unfold Oper.wp
      go_simp
      exact ⟨_, (by first | (simp [upd]; done) | (simp [upd]; omega)), rfl, HG.out.same, gr_refl _ _⟩
    · have e0 : f' 0 = _ := hd ⟨0, .data⟩ (by simp) rfl
      unfold Oper.wp
      go_simp
      exact ⟨_, (by first | (simp [upd, e0]; done) | (simp [upd, e0]; omega)), rfl, HG.out.same, gr_refl _ _⟩
    · unfold Oper.wp
      go_simp
      exact ⟨_, (by first | (simp [upd]; done) | (simp [upd]; omega)), rfl, HG.out.same, gr_refl _ _⟩
    · have e2 : f' 2 = _ := hd ⟨2, .data⟩ (by simp) rfl
      unfold Oper.wp
      go_simp
      refine (DS.range HG.out.1 (by omega) 0 15 (by omega) (by omega) (by omega) (by omega)).mono ?_
      rintro e W9 ⟨⟨d, hd8, hd9, rfl⟩, D9, hg9⟩
      exact ⟨_, (by simp [upd, e2]), ⟨d, ⟨hd8, hd9⟩, rfl⟩, HG.out.ext D9 hg9, hg9⟩
    · unfold Oper.wp
      go_simp
      exact ⟨_, (by first | (simp [upd]; done) | (simp [upd]; omega)), rfl, HG.out.same, gr_refl _ _⟩
    · unfold Oper.wp
      go_simp
      exact ⟨_, (by simp [upd]), ⟨_, rfl, al1 _ _, by have := HG.out.1.blt; omega⟩, HG.out.alo _, gr_alo _ _ _⟩
    · have e4 : f' 4 = _ := hd ⟨4, .data⟩ (by simp) rfl
      obtain ⟨g5, e5, hb5, hn5⟩ := hd ⟨5, .data⟩ (by simp) rfl
      unfold Oper.wp
      go_simp
      refine (DS.pickB HG.out.1 (Below.refl _ _) (by omega) [1, 2, 4] hb5 (fun e => hn5 e.symm) (by simp) (by simp) 3 3 rfl).mono ?_
      rintro e W9 ⟨⟨d, hd9, rfl⟩, D9, hg9⟩
      exact ⟨_, (by simp [upd, e4, e5]), ⟨d, by simpa using hd9, rfl⟩, HG.out.ext D9 hg9, hg9⟩
    · obtain ⟨d3, hd3, e3⟩ := hd ⟨3, .data⟩ (by simp) rfl
      obtain ⟨d6, hd6, e6⟩ := hd ⟨6, .data⟩ (by simp) rfl
      have hq : 0 ≤ d3 * d6 ∧ d3 * d6 ≤ 60 := by
        simp only [List.mem_cons, List.mem_nil_iff, or_false] at hd6
        rcases hd6 with h | h | h <;> (rw [h]; omega)
      have hw : IntKind.i64.wrap (d3 * d6) = d3 * d6 := wrap_small _ (by omega) (by omega)
      unfold Oper.wp
      go_simp
      exact ⟨.int .i64 (d3 * d6), (by simp [upd, e3, e6]), ⟨d3 * d6, hq, rfl⟩, HG.out.same, gr_refl _ _⟩
    · obtain ⟨d7, hd7, e7⟩ := hd ⟨7, .data⟩ (by simp) rfl
      have hw : IntKind.u64.wrap d7 = d7 := IntWalk.u64_in _ (by omega)
      unfold Oper.wp
      go_simp
      exact ⟨.int .u64 d7, (by simp [upd, e7]), ⟨d7, hd7, rfl⟩, HG.out.same, gr_refl _ _⟩
    · have e1 : f' 1 = _ := hd ⟨1, .data⟩ (by simp) rfl
      obtain ⟨u8, hu8, e8⟩ := hd ⟨8, .data⟩ (by simp) rfl
      have hw : IntKind.u64.wrap (pf.lo + u8) = pf.lo + u8 := IntWalk.u64_in _ (by omega)
      unfold Oper.wp
      go_simp
      exact ⟨.int .u64 (pf.lo + u8), (by simp [upd, e1, e8]), ⟨pf.lo + u8, (by omega), rfl⟩, HG.out.same, gr_refl _ _⟩
    · unfold Oper.wp
      go_simp
      exact ⟨_, (by first | (simp [upd]; done) | (simp [upd]; omega)), rfl, HG.out.same, gr_refl _ _⟩
  · intro op ho f' w' kk hkk hG hd
    have c0 : w'.cell? ⟨sb, 0, none⟩ = some (.pointer (some ⟨b, 0, none⟩)) := cell_of (gk hG.1.grown HSB.out nsb) 0
    have c1 : w'.cell? ⟨w.heap.size + 1, 2, none⟩ = some (.int .u64 pf.lo) := hG.1.cell 0 2 rfl rfl
    have z1 : w'.frozen? ⟨w.heap.size + 1, 2, none⟩ = false := hG.1.froz 0 2 rfl
    have HG := Lib.hid hG
    clear hG
    obtain ⟨u9, hu9, e9⟩ := hd 9 (by omega)
    have e10 : f' 10 = _ := hd 10 (by omega)
    replace ho := Option.some.inj ho
    subst ho
    unfold Oper.wp
    go_simp
    generalize hW : World.setCell _ _ _ = W7
    have D7 : DS w W7 b A cap l x 12 [(w.heap.size + 1, #[.bool pf.six, .int .u64 pf.hi, .int .u64 u9], 30), (w.heap.size, #[.bool false, .int .u64 0, .int .u64 0, .int .i64 0], 48)] := by rw [← hW]; exact (HG.out.1.set 0 2 _ rfl).le (by omega)
    clear hW z1 c0 c1
    have HFN : Hid (AddrFine pf.six pf.hi u9) := Lib.hid (hlo2 u9 hu9)
    obtain ⟨lo2, hlo3⟩ : ∃ z : Int, z = u9 := ⟨_, rfl⟩
    rw [← hlo3] at D7 HFN ⊢
    clear hlo3
    clear HG
    go_upto_region 3 with (fail)
    -- R3
    refine wp_region_drawn 10 (fun g' => ⟨#[.pointer (some ⟨pb, 0, none⟩), .pointer (some ⟨sb, 0, none⟩), .pointer (some ⟨lb, 0, none⟩), .pointer (some ⟨w.heap.size, 0, none⟩), .pointer (some ⟨w.heap.size + 1, 0, none⟩), .pointer (some ⟨pb, 0, none⟩), .pointer (some ⟨pb, 0, none⟩), .agg #[.bool pf.six, .int .u64 pf.hi, .int .u64 pf.lo], f' 0, f' 1, f' 2, f' 3, f' 4, f' 5, f' 6, f' 7, f' 8, .int .u64 lo2, .pointer (some ⟨w.heap.size + 1, 2, none⟩), g' 0, g' 1, g' 2, g' 3, g' 4, g' 5, g' 6, g' 7, g' 8, g' 9], []⟩) (VL [VIs (.agg #[.bool pf.six, .int .u64 pf.hi, .int .u64 lo2]), VIs (.int .i64 (lenA pf.six)), VIs (.pointer (some ⟨pb, 0, none⟩)), VIs (.pointer (some ⟨pb, 3, none⟩)), VIs (.int .i64 pf.bits), VIs (.pointer (some ⟨b, 0, none⟩)), VInt (fun z => 1 ≤ z ∧ z ≤ 8), VInt (fun z => pf.bits + 1 ≤ z ∧ z ≤ pf.bits + 8), VInt (fun z => 0 ≤ z ∧ z ≤ lenA pf.six), VVal (fun v => ∃ p : Pf, okP p ∧ v = .agg #[.bool p.six, .int .u64 p.hi, .int .u64 p.lo, .int .i64 p.bits])]) (GD w W7 b A cap l x 12 [(w.heap.size + 1, #[.bool pf.six, .int .u64 pf.hi, .int .u64 lo2], 30), (w.heap.size, #[.bool false, .int .u64 0, .int .u64 0, .int .i64 0], 48)]) (fun w w' => w.grownBy w' (some b)) (fun _ => undef) (show Tryz.prog.follows .mixedOrders = true from by kernel_rfl) (by kernel_rfl) ?_ ?_ ?_ (GD.start D7)
    · exact fun i w w' v h hg => VL.stab (by
        intro p hp
        simp only [List.mem_cons, List.mem_nil_iff, or_false] at hp
        rcases hp with rfl | rfl | rfl | rfl | rfl | rfl | rfl | rfl | rfl | rfl <;> first | exact VIs.stab _ _ | exact VBox.stab _ _ _ _ | exact VInt.stab _ _ | exact VVal.stab _ _ | exact VStr.stab _ _ | exact VFlip.stab _ | exact VNew.stab _ _ _ _) i w w' v h hg
    · intro i op hi ho g' w' kk hkk hG hd
      have c0 : w'.cell? ⟨sb, 0, none⟩ = some (.pointer (some ⟨b, 0, none⟩)) := cell_of (gk hG.1.grown HSB.out nsb) 0
      have c1 : w'.cell? ⟨lb, 0, none⟩ = some (.int .i64 (lenA pf.six)) := cell_of (gk hG.1.grown HLB.out nlb) 0
      have c2 : w'.cell? ⟨pb, 3, none⟩ = some (.int .i64 pf.bits) := cell_of (gk hG.1.grown HPB.out npb) 3
      have a0 : w'.cell? ⟨w.heap.size + 1, 0, none⟩ = some (.bool pf.six) := hG.1.cell 0 0 rfl rfl
      have a1 : w'.cell? ⟨w.heap.size + 1, 1, none⟩ = some (.int .u64 pf.hi) := hG.1.cell 0 1 rfl rfl
      have a2 : w'.cell? ⟨w.heap.size + 1, 2, none⟩ = some (.int .u64 lo2) := hG.1.cell 0 2 rfl rfl
      have HG := Lib.hid hG
      clear hG
      have hcase : i = 0 ∨ i = 1 ∨ i = 2 ∨ i = 3 ∨ i = 4 ∨ i = 5 ∨ i = 6 ∨ i = 7 ∨ i = 8 ∨ i = 9 := by omega
      rcases hcase with rfl | rfl | rfl | rfl | rfl | rfl | rfl | rfl | rfl | rfl <;> (replace ho := Option.some.inj ho; subst ho)
      · unfold Oper.wp
        go_simp
        exact ⟨_, (by first | (simp [upd]; done) | (simp [upd]; omega)), rfl, HG.out.same, gr_refl _ _⟩
      · unfold Oper.wp
        go_simp
        exact ⟨_, (by first | (simp [upd]; done) | (simp [upd]; omega)), rfl, HG.out.same, gr_refl _ _⟩
      · unfold Oper.wp
        go_simp
        exact ⟨_, (by first | (simp [upd]; done) | (simp [upd]; omega)), rfl, HG.out.same, gr_refl _ _⟩
      · have e2 : g' 2 = _ := hd ⟨2, .data⟩ (by simp) rfl
        unfold Oper.wp
        go_simp
        exact ⟨_, (by first | (simp [upd, e2]; done) | (simp [upd, e2]; omega)), rfl, HG.out.same, gr_refl _ _⟩
      · have e3 : g' 3 = _ := hd ⟨3, .data⟩ (by simp) rfl
        unfold Oper.wp
        go_simp
        exact ⟨_, (by first | (simp [upd, e3]; done) | (simp [upd, e3]; omega)), rfl, HG.out.same, gr_refl _ _⟩
      · unfold Oper.wp
        go_simp
        exact ⟨_, (by first | (simp [upd]; done) | (simp [upd]; omega)), rfl, HG.out.same, gr_refl _ _⟩
      · have e5 : g' 5 = _ := hd ⟨5, .data⟩ (by simp) rfl
        unfold Oper.wp
        go_simp
        refine (DS.range HG.out.1 (by omega) 1 8 (by omega) (by omega) (by omega) (by omega)).mono ?_
        rintro e W9 ⟨⟨d, hd8, hd9, rfl⟩, D9, hg9⟩
        exact ⟨_, (by simp [upd, e5]), ⟨d, ⟨hd8, hd9⟩, rfl⟩, HG.out.ext D9 hg9, hg9⟩
      · have e4 : g' 4 = _ := hd ⟨4, .data⟩ (by simp) rfl
        obtain ⟨d6, hd6, e6⟩ := hd ⟨6, .data⟩ (by simp) rfl
        have hw : IntKind.i64.wrap (pf.bits + d6) = pf.bits + d6 := wrap_small _ (by omega) (by omega)
        unfold Oper.wp
        go_simp
        exact ⟨.int .i64 (pf.bits + d6), (by simp [upd, e4, e6]), ⟨pf.bits + d6, (by omega), rfl⟩, HG.out.same, gr_refl _ _⟩
      · have e1 : g' 1 = _ := hd ⟨1, .data⟩ (by simp) rfl
        obtain ⟨d7, hd7, e7⟩ := hd ⟨7, .data⟩ (by simp) rfl
        unfold Oper.wp
        go_simp
        exact ⟨.int .i64 (min (lenA pf.six) d7), (by simp [upd, e1, e7]), ⟨min (lenA pf.six) d7, (by omega), rfl⟩, HG.out.same, gr_refl _ _⟩
      · have e0 : g' 0 = _ := hd ⟨0, .data⟩ (by simp) rfl
        obtain ⟨d8, hd8, e8⟩ := hd ⟨8, .data⟩ (by simp) rfl
        unfold Oper.wp
        go_simp
        refine (maskOf_det pf.six pf.hi lo2 d8 w' HFN.out.1 HFN.out.2.1 (lenA pf.six - d8).toNat (by omega) (by omega) (by omega)).mono ?_
        rintro e W9 ⟨s9, h9, l9, hf9, rfl, -, -, hb9⟩
        exact ⟨_, (by simp [upd, e0, e8]), ⟨⟨s9, h9, l9, d8⟩, mask_right (b := d8) (m := (lenA pf.six - d8).toNat) HFN.out (by omega) (by omega) (by omega) hf9, rfl⟩, ⟨(HG.out.1.bl hb9).le (by omega), Nat.le_trans HG.out.2 hb9.size⟩, grownB hb9 _⟩
    · intro op ho g' w' kk hkk hG hd
      have c0 : w'.cell? ⟨sb, 0, none⟩ = some (.pointer (some ⟨b, 0, none⟩)) := cell_of (gk hG.1.grown HSB.out nsb) 0
      have c1 : w'.cell? ⟨lb, 0, none⟩ = some (.int .i64 (lenA pf.six)) := cell_of (gk hG.1.grown HLB.out nlb) 0
      have c2 : w'.cell? ⟨pb, 3, none⟩ = some (.int .i64 pf.bits) := cell_of (gk hG.1.grown HPB.out npb) 3
      have a0 : w'.cell? ⟨w.heap.size + 1, 0, none⟩ = some (.bool pf.six) := hG.1.cell 0 0 rfl rfl
      have a1 : w'.cell? ⟨w.heap.size + 1, 1, none⟩ = some (.int .u64 pf.hi) := hG.1.cell 0 1 rfl rfl
      have a2 : w'.cell? ⟨w.heap.size + 1, 2, none⟩ = some (.int .u64 lo2) := hG.1.cell 0 2 rfl rfl
      have HG := Lib.hid hG
      clear hG
      obtain ⟨p9, hp9, e9⟩ := hd 9 (by omega)
      replace ho := Option.some.inj ho
      subst ho
      have hbk := HG.out.1.blk _ (List.mem_of_getElem? (i := 1) rfl)
      obtain ⟨⟨r0, r1, r2, r3⟩, m0, m1, m2, m3⟩ := res4 hbk
      have HBK := Lib.hid hbk
      clear hbk
      unfold Oper.wp
      go_simp
      clear r0 r1 r2 r3 m0 m1 m2 m3 c0 c1 c2 a0 a1 a2
      generalize hW : World.setCell _ _ _ = W8
      have hr := re4 HBK.out hW
      have D8 := (HG.out.1.re 1 rfl hr).le (m' := 30) (by omega)
      obtain ⟨⟨y0, y1, y2, y3⟩, -⟩ := res4 hr.blk
      have hfin : RpP w b A cap l x (.returned (.agg #[.bool p9.six, .int .u64 p9.hi, .int .u64 p9.lo, .int .i64 p9.bits])) W8 := ⟨p9, rfl, hp9, D8.to⟩
      clear hr hW
      go_wp2_with fail
      refine bodyPost_ret (v := .agg #[.bool p9.six, .int .u64 p9.hi, .int .u64 p9.lo, .int .i64 p9.bits]) (by simp [results, Tryz.results51, go_sem, y0, y1, y2, y3]) rfl hfin
    -- END R3
  -- END R2
end Go.Proofs.YtajifionclpphaaGreatDoor
