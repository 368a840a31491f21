/- Spans.Both. Spans.Rest. -/
import Derived.Test.YtajifionclpphaaGreatDoorSvE
namespace Go.Proofs.YtajifionclpphaaGreatDoor
open Go.RowKit Go.Hw
theorem bothS_go (x y : Sn) (a b : List Sn) : bothS (x :: a) (y :: b) = (if max x.1 y.1 < min x.2 y.2 then [(max x.1 y.1, min x.2 y.2)] else []) ++ if x.2 < y.2 then bothS a (y :: b) else bothS (x :: a) b := by rw [bothS]
theorem bothS_end {a b : List Sn} (h : a = [] ∨ b = []) : bothS a b = [] := by
  rcases h with rfl | rfl
  · rw [bothS]
  · cases a <;> rw [bothS]
theorem drop_at {L : List Rg} {i : Nat} (h : i < L.length) : (L.map rgS).drop i = rgS (L.getD i noRg) :: (L.map rgS).drop (i + 1) := by
  rw [List.drop_eq_getElem_cons (by simpa using h), List.getElem_map, List.getD_eq_getElem?_getD, List.getElem?_eq_getElem h]
  rfl
theorem sixA {x : Ad} (hx : fineA x) : x.six = decide (sixAt ≤ keyA x) := (keyN_six (fine_num hx)).symm
/-- What two ranges have in common. -/
def meetR (x y : Rg) : Rg := ⟨(laterA (fiR x) (fiR y)).six, (laterA (fiR x) (fiR y)).hi, (laterA (fiR x) (fiR y)).lo, (earlierA (laR x) (laR y)).six, (earlierA (laR x) (laR y)).hi, (earlierA (laR x) (laR y)).lo⟩
theorem meetR_law {x y : Rg} (hx : okR x) (hy : okR y) : fineA (fiR (meetR x y)) ∧ fineA (laR (meetR x y)) ∧ keyA (fiR (meetR x y)) = max (rgS x).1 (rgS y).1 ∧ keyA (laR (meetR x y)) + 1 = min (rgS x).2 (rgS y).2 ∧ (keyA (fiR (meetR x y)) ≤ keyA (laR (meetR x y)) → okR (meetR x y)) := by
  obtain ⟨k1, z1⟩ := laterA_key (fiR x) (fiR y)
  obtain ⟨k2, z2⟩ := earlierA_key (laR x) (laR y)
  have e1 : fiR (meetR x y) = laterA (fiR x) (fiR y) := rfl
  have e2 : laR (meetR x y) = earlierA (laR x) (laR y) := rfl
  have f1 : fineA (fiR (meetR x y)) := by
    rw [e1]
    rcases z1 with h | h <;> rw [h]
    · exact hx.f
    · exact hy.f
  have f2 : fineA (laR (meetR x y)) := by
    rw [e2]
    rcases z2 with h | h <;> rw [h]
    · exact hx.l
    · exact hy.l
  have g1 : (rgS x).1 = keyA (fiR x) ∧ (rgS y).1 = keyA (fiR y) ∧ (rgS x).2 = keyA (laR x) + 1 ∧ (rgS y).2 = keyA (laR y) + 1 := ⟨rfl, rfl, rfl, rfl⟩
  refine ⟨f1, f2, by rw [e1, k1]; omega, by rw [e2, k2]; omega, fun hle => ⟨f1, f2, ?_, hle⟩⟩
  have s1 : (fiR x).six = (laR x).six := hx.six.symm
  have s2 : (fiR y).six = (laR y).six := hy.six.symm
  rw [sixA hx.f, sixA hx.l] at s1
  rw [sixA hy.f, sixA hy.l] at s2
  show (laR (meetR x y)).six = (fiR (meetR x y)).six
  rw [sixA f1, sixA f2]
  rw [e1, e2] at hle ⊢
  rw [decide_eq_decide] at s1 s2 ⊢
  have := hx.le
  have := hy.le
  omega
structure BoI (w : World) (SA SB : List Sn) (i k : Nat) (v : Value) (wr : World) : Prop where
  below : Below w.heap.size w wr
  row : ∃ O : List Rg, rgOwn wr w.heap.size v O ∧ O.length ≤ i + k ∧ (∀ r ∈ O, okR r) ∧ O.map rgS ++ bothS (SA.drop i) (SB.drop k) = bothS SA SB
set_option maxRecDepth 100000 in
set_option maxHeartbeats 4000000 in
theorem both_any2 (A B : Option Addr) (ca cb : Nat) (L M : List Rg) (SA SB : List Sn) (w : World) (hA : rgAt w A L) (hB : rgAt w B M) (hL : RgsIs L SA) (hM : RgsIs M SB) (h1 : L.length ≤ 40000) (h2 : M.length ≤ 40000) :
    Calls Tryz.prog 40 #[.slice A L.length ca, .slice B M.length cb] w fun e w' => RgsOut w (fun k => hasS SA k ∧ hasS SB k) (L.length + M.length) e w' := by
  obtain ⟨i0, hi0, hz0, hz1, hz2⟩ := info_parts rg_info
  have HA := Lib.hid hA
  have HB := Lib.hid hB
  have HL := Lib.hid hL
  have HM := Lib.hid hM
  clear hA hB hL hM
  go_enter Tryz.func40, Tryz.ntmps40
  go_wp2_with fail
  go_loopw [5, 6, 7, 8] (fun v5 v6 v7 _ wr => ∃ i k : Nat, i ≤ L.length ∧ k ≤ M.length ∧ v6 = .int .i64 i ∧ v7 = .int .i64 k ∧ BoI w SA SB i k v5 wr) (fun _ v6 v7 _ _ => (L.length - (intOf v6).toNat) + (M.length - (intOf v7).toNat))
  case atStart => exact ⟨0, 0, Nat.zero_le _, Nat.zero_le _, rfl, rfl, Below.refl _ _, [], World.ownsRow_nil _ _ _ _, Nat.zero_le _, (by intro r hr; cases hr), rfl⟩
  case round =>
    obtain ⟨i, k, hi, hk, rfl, rfl, hin⟩ := hrel
    have HIN := Lib.hid hin
    clear hin
    by_cases hgo : i < L.length ∧ k < M.length
    · obtain ⟨hil, hkl⟩ := hgo
      have hd1 : decide ((i : Int) < (L.length : Int)) = true := by simp; omega
      have hd2 : decide ((k : Int) < (M.length : Int)) = true := by simp; omega
      have s1 : (i : Int) < (L.length : Int) := by omega
      have s2 : (k : Int) < (M.length : Int) := by omega
      obtain ⟨gA, oA, rfl, hgA, hca⟩ := (HA.out.below HIN.out.below) i hil
      obtain ⟨gB, oB, rfl, hgB, hcb⟩ := (HB.out.below HIN.out.below) k hkl
      obtain ⟨x0, x1, x2, x3, x4, x5⟩ := rg_cells hca
      obtain ⟨y0, y1, y2, y3, y4, y5⟩ := rg_cells hcb
      have HXO := Lib.hid (HL.out.ok (L.getD i noRg) (rw_mem hil))
      have HYO := Lib.hid (HM.out.ok (M.getD k noRg) (rw_mem hkl))
      have HDA := Lib.hid (drop_at hil)
      have HDB := Lib.hid (drop_at hkl)
      rw [HL.out.map] at HDA
      rw [HM.out.map] at HDB
      generalize hxe : L.getD i noRg = x at *
      generalize hye : M.getD k noRg = y at *
      have HXE := Lib.hid hxe
      have HYE := Lib.hid hye
      clear hxe hye
      have hla := fun W => later_any (fiR x) (fiR y) W HXO.out.f HYO.out.f
      have hea := fun W => earlier_any (laR x) (laR y) W HXO.out.l HYO.out.l
      have HML := Lib.hid (meetR_law HXO.out HYO.out)
      obtain ⟨z, hz⟩ : ∃ z, meetR x y = z := ⟨_, rfl⟩
      have hla' : ∀ W : World, Calls Tryz.prog 83 #[.agg #[.bool x.six, .int .u64 x.hi, .int .u64 x.lo], .agg #[.bool y.six, .int .u64 y.hi, .int .u64 y.lo]] W fun e w' => e = .returned (.agg #[.bool z.six, .int .u64 z.hi, .int .u64 z.lo]) ∧ Below W.heap.size W w' := by rw [← hz]; exact hla
      have hea' : ∀ W : World, Calls Tryz.prog 84 #[.agg #[.bool x.six2, .int .u64 x.hi2, .int .u64 x.lo2], .agg #[.bool y.six2, .int .u64 y.hi2, .int .u64 y.lo2]] W fun e w' => e = .returned (.agg #[.bool z.six2, .int .u64 z.hi2, .int .u64 z.lo2]) ∧ Below W.heap.size W w' := by rw [← hz]; exact hea
      rw [hz] at HML
      clear hla hea hz hca hcb
      go_upto_region 4 with (fail)
      go_cut [8] from 19 to 41 (fun v8 wc => ∃ g, v8 = .pointer (some ⟨g, 0, none⟩) ∧ wr.heap.size ≤ g ∧ wc.heap[g]? = some (.cells #[.bool z.six, .int .u64 z.hi, .int .u64 z.lo, .bool z.six2, .int .u64 z.hi2, .int .u64 z.lo2] 43 (0, 0)) ∧ Below wr.heap.size wr wc)
      case first =>
        -- R4
        refine wp_region_last 24 (fun f' => ⟨#[.slice (some ⟨gA, oA, none⟩) L.length ca, .slice (some ⟨gB, oB, none⟩) M.length cb, undef, undef, .slice none 0 0, u5, .int .i64 i, .int .i64 k, f' 23, .int .i64 i, .slice (some ⟨gA, oA, none⟩) L.length ca, .int .i64 L.length, .bool true, .bool true, .int .i64 k, .slice (some ⟨gB, oB, none⟩) M.length cb, .int .i64 M.length, .bool true, .bool true, f' 0, f' 1, f' 2, f' 3, f' 4, f' 5, f' 6, f' 7, f' 8, f' 9, f' 10, f' 11, f' 12, f' 13, f' 14, f' 15, f' 16, f' 17, f' 18, f' 19, f' 20, f' 21, f' 22, u42, u43, u44, u45, u46, u47, u48, u49, u50, u51, u52, u53, u54, u55, u56, u57, u58, u59, u60, u61, u62, u63, u64, u65, u66, u67, undef, undef], []⟩) [VE (.slice (some ⟨gA, oA, none⟩) L.length ca), VE (.int .i64 i), VE (.pointer (some ⟨gA, oA + i * 6, none⟩)), VE (.pointer (some ⟨gA, oA + i * 6, none⟩)), VE (.agg #[.bool x.six, .int .u64 x.hi, .int .u64 x.lo]), VE (.slice (some ⟨gB, oB, none⟩) M.length cb), VE (.int .i64 k), VE (.pointer (some ⟨gB, oB + k * 6, none⟩)), VE (.pointer (some ⟨gB, oB + k * 6, none⟩)), VE (.agg #[.bool y.six, .int .u64 y.hi, .int .u64 y.lo]), VE (.agg #[.bool z.six, .int .u64 z.hi, .int .u64 z.lo]), VE (.slice (some ⟨gA, oA, none⟩) L.length ca), VE (.int .i64 i), VE (.pointer (some ⟨gA, oA + i * 6, none⟩)), VE (.pointer (some ⟨gA, oA + i * 6 + 3, none⟩)), VE (.agg #[.bool x.six2, .int .u64 x.hi2, .int .u64 x.lo2]), VE (.slice (some ⟨gB, oB, none⟩) M.length cb), VE (.int .i64 k), VE (.pointer (some ⟨gB, oB + k * 6, none⟩)), VE (.pointer (some ⟨gB, oB + k * 6 + 3, none⟩)), VE (.agg #[.bool y.six2, .int .u64 y.hi2, .int .u64 y.lo2]), VE (.agg #[.bool z.six2, .int .u64 z.hi2, .int .u64 z.lo2]), VE (.agg #[.bool z.six, .int .u64 z.hi, .int .u64 z.lo, .bool z.six2, .int .u64 z.hi2, .int .u64 z.lo2]), VN wr #[.bool false, .int .u64 0, .int .u64 0, .bool false, .int .u64 0, .int .u64 0] 43] wr (fun i9 => match i9 with | 0 => u19 | 1 => u20 | 2 => u21 | 3 => u22 | 4 => u23 | 5 => u24 | 6 => u25 | 7 => u26 | 8 => u27 | 9 => u28 | 10 => u29 | 11 => u30 | 12 => u31 | 13 => u32 | 14 => u33 | 15 => u34 | 16 => u35 | 17 => u36 | 18 => u37 | 19 => u38 | 20 => u39 | 21 => u40 | 22 => u41 | 23 => u8 | _ => undef) (show Tryz.prog.follows .mixedOrders = true from by kernel_rfl) (by kernel_rfl) ?_ ?_ ?_ rfl
        · intro p hp
          simp only [List.mem_cons, List.mem_nil_iff, or_false] at hp
          rcases hp with rfl | rfl | rfl | rfl | rfl | rfl | rfl | rfl | rfl | rfl | rfl | rfl | rfl | rfl | rfl | rfl | rfl | rfl | rfl | rfl | rfl | rfl | rfl | rfl <;> first | exact VE.kept _ | exact VN.kept _ _ _
        · intro i9 op hi9 ho f' w' hS hd
          have hcase : i9 = 0 ∨ i9 = 1 ∨ i9 = 2 ∨ i9 = 3 ∨ i9 = 4 ∨ i9 = 5 ∨ i9 = 6 ∨ i9 = 7 ∨ i9 = 8 ∨ i9 = 9 ∨ i9 = 10 ∨ i9 = 11 ∨ i9 = 12 ∨ i9 = 13 ∨ i9 = 14 ∨ i9 = 15 ∨ i9 = 16 ∨ i9 = 17 ∨ i9 = 18 ∨ i9 = 19 ∨ i9 = 20 ∨ i9 = 21 ∨ i9 = 22 ∨ i9 = 23 := by omega
          rcases hcase with rfl | rfl | rfl | rfl | rfl | rfl | rfl | rfl | rfl | rfl | rfl | rfl | rfl | rfl | rfl | rfl | rfl | rfl | rfl | rfl | rfl | rfl | rfl | rfl <;> (replace ho := Option.some.inj ho; subst ho)
          · unfold Oper.wp
            go_simp
            exact ⟨_, (by first | (simp [upd]; done) | (simp [upd]; omega)), rfl, Below.refl _ _⟩
          · unfold Oper.wp
            go_simp
            exact ⟨_, (by first | (simp [upd]; done) | (simp [upd]; omega)), rfl, Below.refl _ _⟩
          · have e0 : f' 0 = _ := hd ⟨0, .data⟩ (by simp) rfl
            have e1 : f' 1 = _ := hd ⟨1, .data⟩ (by simp) rfl
            unfold Oper.wp
            go_simp
            exact ⟨_, (by first | (simp [upd, e0, e1]; done) | (simp [upd, e0, e1]; omega)), rfl, Below.refl _ _⟩
          · have e2 : f' 2 = _ := hd ⟨2, .data⟩ (by simp) rfl
            unfold Oper.wp
            go_simp
            exact ⟨_, (by first | (simp [upd, e2]; done) | (simp [upd, e2]; omega)), rfl, Below.refl _ _⟩
          · have e3 : f' 3 = _ := hd ⟨3, .data⟩ (by simp) rfl
            have x0' : w'.cell? ⟨gA, oA + i * 6, none⟩ = some (.bool x.six) := (hS.out.cell (p := ⟨gA, _, none⟩) hgA).trans x0
            have x1' : w'.cell? ⟨gA, oA + i * 6 + 1, none⟩ = some (.int .u64 x.hi) := (hS.out.cell (p := ⟨gA, _, none⟩) hgA).trans x1
            have x2' : w'.cell? ⟨gA, oA + i * 6 + 2, none⟩ = some (.int .u64 x.lo) := (hS.out.cell (p := ⟨gA, _, none⟩) hgA).trans x2
            unfold Oper.wp
            go_simp
            exact ⟨_, (by first | (simp [upd, e3]; done) | (simp [upd, e3]; omega)), rfl, Below.refl _ _⟩
          · unfold Oper.wp
            go_simp
            exact ⟨_, (by first | (simp [upd]; done) | (simp [upd]; omega)), rfl, Below.refl _ _⟩
          · unfold Oper.wp
            go_simp
            exact ⟨_, (by first | (simp [upd]; done) | (simp [upd]; omega)), rfl, Below.refl _ _⟩
          · have e5 : f' 5 = _ := hd ⟨5, .data⟩ (by simp) rfl
            have e6 : f' 6 = _ := hd ⟨6, .data⟩ (by simp) rfl
            unfold Oper.wp
            go_simp
            exact ⟨_, (by first | (simp [upd, e5, e6]; done) | (simp [upd, e5, e6]; omega)), rfl, Below.refl _ _⟩
          · have e7 : f' 7 = _ := hd ⟨7, .data⟩ (by simp) rfl
            unfold Oper.wp
            go_simp
            exact ⟨_, (by first | (simp [upd, e7]; done) | (simp [upd, e7]; omega)), rfl, Below.refl _ _⟩
          · have e8 : f' 8 = _ := hd ⟨8, .data⟩ (by simp) rfl
            have y0' : w'.cell? ⟨gB, oB + k * 6, none⟩ = some (.bool y.six) := (hS.out.cell (p := ⟨gB, _, none⟩) hgB).trans y0
            have y1' : w'.cell? ⟨gB, oB + k * 6 + 1, none⟩ = some (.int .u64 y.hi) := (hS.out.cell (p := ⟨gB, _, none⟩) hgB).trans y1
            have y2' : w'.cell? ⟨gB, oB + k * 6 + 2, none⟩ = some (.int .u64 y.lo) := (hS.out.cell (p := ⟨gB, _, none⟩) hgB).trans y2
            unfold Oper.wp
            go_simp
            exact ⟨_, (by first | (simp [upd, e8]; done) | (simp [upd, e8]; omega)), rfl, Below.refl _ _⟩
          · have e4 : f' 4 = _ := hd ⟨4, .data⟩ (by simp) rfl
            have e9 : f' 9 = _ := hd ⟨9, .data⟩ (by simp) rfl
            unfold Oper.wp
            go_simp
            refine (hla' w').mono ?_
            rintro e w9 ⟨rfl, hb9⟩
            exact ⟨_, (by simp [upd, e4, e9]), rfl, hb9⟩
          · unfold Oper.wp
            go_simp
            exact ⟨_, (by first | (simp [upd]; done) | (simp [upd]; omega)), rfl, Below.refl _ _⟩
          · unfold Oper.wp
            go_simp
            exact ⟨_, (by first | (simp [upd]; done) | (simp [upd]; omega)), rfl, Below.refl _ _⟩
          · have e11 : f' 11 = _ := hd ⟨11, .data⟩ (by simp) rfl
            have e12 : f' 12 = _ := hd ⟨12, .data⟩ (by simp) rfl
            unfold Oper.wp
            go_simp
            exact ⟨_, (by first | (simp [upd, e11, e12]; done) | (simp [upd, e11, e12]; omega)), rfl, Below.refl _ _⟩
          · have e13 : f' 13 = _ := hd ⟨13, .data⟩ (by simp) rfl
            unfold Oper.wp
            go_simp
            exact ⟨_, (by first | (simp [upd, e13]; done) | (simp [upd, e13]; omega)), rfl, Below.refl _ _⟩
          · have e14 : f' 14 = _ := hd ⟨14, .data⟩ (by simp) rfl
            have x3' : w'.cell? ⟨gA, oA + i * 6 + 3, none⟩ = some (.bool x.six2) := (hS.out.cell (p := ⟨gA, _, none⟩) hgA).trans x3
            have x4' : w'.cell? ⟨gA, oA + i * 6 + 4, none⟩ = some (.int .u64 x.hi2) := (hS.out.cell (p := ⟨gA, _, none⟩) hgA).trans x4
            have x5' : w'.cell? ⟨gA, oA + i * 6 + 5, none⟩ = some (.int .u64 x.lo2) := (hS.out.cell (p := ⟨gA, _, none⟩) hgA).trans x5
            unfold Oper.wp
            go_simp
            exact ⟨_, (by first | (simp [upd, e14]; done) | (simp [upd, e14]; omega)), rfl, Below.refl _ _⟩
          · unfold Oper.wp
            go_simp
            exact ⟨_, (by first | (simp [upd]; done) | (simp [upd]; omega)), rfl, Below.refl _ _⟩
          · unfold Oper.wp
            go_simp
            exact ⟨_, (by first | (simp [upd]; done) | (simp [upd]; omega)), rfl, Below.refl _ _⟩
          · have e16 : f' 16 = _ := hd ⟨16, .data⟩ (by simp) rfl
            have e17 : f' 17 = _ := hd ⟨17, .data⟩ (by simp) rfl
            unfold Oper.wp
            go_simp
            exact ⟨_, (by first | (simp [upd, e16, e17]; done) | (simp [upd, e16, e17]; omega)), rfl, Below.refl _ _⟩
          · have e18 : f' 18 = _ := hd ⟨18, .data⟩ (by simp) rfl
            unfold Oper.wp
            go_simp
            exact ⟨_, (by first | (simp [upd, e18]; done) | (simp [upd, e18]; omega)), rfl, Below.refl _ _⟩
          · have e19 : f' 19 = _ := hd ⟨19, .data⟩ (by simp) rfl
            have y3' : w'.cell? ⟨gB, oB + k * 6 + 3, none⟩ = some (.bool y.six2) := (hS.out.cell (p := ⟨gB, _, none⟩) hgB).trans y3
            have y4' : w'.cell? ⟨gB, oB + k * 6 + 4, none⟩ = some (.int .u64 y.hi2) := (hS.out.cell (p := ⟨gB, _, none⟩) hgB).trans y4
            have y5' : w'.cell? ⟨gB, oB + k * 6 + 5, none⟩ = some (.int .u64 y.lo2) := (hS.out.cell (p := ⟨gB, _, none⟩) hgB).trans y5
            unfold Oper.wp
            go_simp
            exact ⟨_, (by first | (simp [upd, e19]; done) | (simp [upd, e19]; omega)), rfl, Below.refl _ _⟩
          · have e15 : f' 15 = _ := hd ⟨15, .data⟩ (by simp) rfl
            have e20 : f' 20 = _ := hd ⟨20, .data⟩ (by simp) rfl
            unfold Oper.wp
            go_simp
            refine (hea' w').mono ?_
            rintro e w9 ⟨rfl, hb9⟩
            exact ⟨_, (by simp [upd, e15, e20]), rfl, hb9⟩
          · have e10 : f' 10 = _ := hd ⟨10, .data⟩ (by simp) rfl
            have e21 : f' 21 = _ := hd ⟨21, .data⟩ (by simp) rfl
            unfold Oper.wp
            go_simp
            exact ⟨_, (by first | (simp [upd, e10, e21]; done) | (simp [upd, e10, e21]; omega)), rfl, Below.refl _ _⟩
          · unfold Oper.wp
            go_simp
            exact ⟨_, (by simp [upd]), ⟨_, rfl, hS.out.size, heap_alloc_new _ _⟩, (Below.refl _ _).alloc (Nat.le_refl _) _⟩
        · intro op ho f' w' hS hd
          have e22 : f' 22 = _ := hd 22 (by omega)
          obtain ⟨g23, e23, hn23, hg23⟩ := hd 23 (by omega)
          replace ho := Option.some.inj ho
          subst ho
          refine store_step (vs := #[.bool z.six, .int .u64 z.hi, .int .u64 z.lo, .bool z.six2, .int .u64 z.hi2, .int .u64 z.lo2]) e23 e22 hg23 rfl (by kernel_rfl) (by simp [Value.oneCell']) (fun W9 hr => ?_)
          have HR := Lib.hid hr
          clear hr
          first | (go_step; go_step; go_meet) | (go_step; go_meet) | go_meet | skip
          exact ⟨g23, e23, hn23, HR.out.blk, HR.out.below hS.out hn23⟩
        -- END R4
      case rest =>
      obtain ⟨g, rfl, hgn, hgz, hbc⟩ := hcut
      obtain ⟨W3, rfl⟩ : ∃ W3 : World, W3 = wc := ⟨_, rfl⟩
      have HB3 := Lib.hid (HIN.out.below.trans (hbc.mono HIN.out.below.size))
      obtain ⟨O, hO, hOl, hOk, hOm⟩ := HIN.out.row
      have HO3 := Lib.hid (own_belowR hO hbc (Nat.le_refl _))
      have HOL := Lib.hid hOl
      have HOK := Lib.hid hOk
      have HOM := Lib.hid hOm
      have HGZ := Lib.hid hgz
      clear hO hOl hOk hOm hgn hbc x0 x1 x2 x3 x4 x5 y0 y1 y2 y3 y4 y5 HIN hla' hea' hgA hgB
      have hcm := fun W => spanCompare_any z.six z.hi z.lo z.six2 z.hi2 z.lo2 W
      have hkc := (spanC_key HML.out.1 HML.out.2.1).2.2
      have hkc1 : 0 < spanC z.six z.hi z.lo z.six2 z.hi2 z.lo2 ↔ keyA (laR z) < keyA (fiR z) := hkc
      generalize spanC z.six z.hi z.lo z.six2 z.hi2 z.lo2 = c at *
      have HKC := Lib.hid hkc1
      obtain ⟨cb1, hcb1⟩ : ∃ cb1, decide (c ≤ 0) = cb1 := ⟨_, rfl⟩
      have HCB1 := Lib.hid hcb1
      obtain ⟨⟨n0, n1, n2, n3, n4, n5⟩, -⟩ := res6r hgz
      clear hkc hkc1 hgz
      go_wp2_with fail
      refine (hcm W3).mono ?_
      rintro e W4 ⟨rfl, hb4⟩
      have HB4 := Lib.hid (HB3.out.trans (hb4.mono HB3.out.size))
      have HO4 := Lib.hid (own_belowR HO3.out hb4 (Nat.le_refl _))
      have HGZ4 := Lib.hid ((hb4.block _ (lt_of_block HGZ.out)).trans HGZ.out)
      clear hb4 hcm n0 n1 n2 n3 n4 n5 HB3 HO3 HGZ
      go_upto_if 47 with (fail)
      have HFO : Hid (∀ O' : List Rg, O' = O ++ (if keyA (fiR z) ≤ keyA (laR z) then [z] else []) → O'.length ≤ i + k + 1 ∧ (∀ r ∈ O', okR r) ∧ O'.map rgS ++ (if (rgS x).2 < (rgS y).2 then bothS (SA.drop (i + 1)) (SB.drop k) else bothS (SA.drop i) (SB.drop (k + 1))) = bothS SA SB) := Lib.hid (by
        rintro O' rfl
        obtain ⟨f1, f2, k1, k2, k3⟩ := HML.out
        have hl := HOL.out
        have hm := HOM.out
        rw [HDA.out, HDB.out, bothS_go] at hm
        refine ⟨?_, ?_, ?_⟩
        · rw [List.length_append]
          split <;> simp <;> omega
        · intro r hr
          rcases List.mem_append.1 hr with h | h
          · exact HOK.out r h
          · split at h
            · rename_i hle
              simp at h
              rw [h]
              exact k3 hle
            · cases h
        · rw [← hm, HDA.out, HDB.out, List.map_append, List.append_assoc]
          congr 1
          congr 1
          by_cases hle : keyA (fiR z) ≤ keyA (laR z)
          · rw [if_pos hle, if_pos (by omega), ← k1, ← k2]
            rfl
          · rw [if_neg hle, if_neg (by omega)]
            rfl)
      clear HML HOL HOM HOK
      go_cut [5] from 48 to 51 (fun v5 wc => (∃ O', O' = O ++ (if keyA (fiR z) ≤ keyA (laR z) then [z] else []) ∧ rgOwn wc w.heap.size v5 O') ∧ Below w.heap.size w wc)
      case first =>
        cases cb1
        · have hno : ¬ keyA (fiR z) ≤ keyA (laR z) := fun h => of_decide_eq_false HCB1.out (by have := HKC.out; omega)
          have HF : Hid (rgOwn W4 w.heap.size u5 (O ++ (if keyA (fiR z) ≤ keyA (laR z) then [z] else []))) := Lib.hid (by rw [if_neg hno, List.append_nil]; exact HO4.out)
          clear hno
          go_wp2_with fail
          go_meet
          exact ⟨⟨_, rfl, HF.out⟩, HB4.out⟩
        · have hyes : keyA (fiR z) ≤ keyA (laR z) := by have h1 := of_decide_eq_true HCB1.out; have := HKC.out; omega
          have HE : Hid (O ++ (if keyA (fiR z) ≤ keyA (laR z) then [z] else []) = O ++ [z]) := Lib.hid (by rw [if_pos hyes])
          obtain ⟨⟨n0, n1, n2, n3, n4, n5⟩, -⟩ := res6r HGZ4.out
          clear hyes
          have hw4 := HB4.out.size
          have hol : O.length + 1 ≤ 100000 := by have := (HFO.out _ rfl).1; rw [HE.out] at this; simp at this; omega
          go_wp2_with (at_builtin; refine wpList_append_own _ rfl (.tmp 48) (.tmp 50) 75 rfl w.heap.size 43 i0 (.agg #[.bool false, .int .u64 0, .int .u64 0, .bool false, .int .u64 0, .int .u64 0]) 6 48 Tryz.underlying75 hi0 hz0 hz1 hz2 rfl (by decide) _ _ _ rfl (World.ownsRow.alloc HO4.out _) ⟨W4.heap.size, 0, none⟩ 1 1 (rgC z) rfl rfl (cells_newR W4 (rgC z) _) (rgC_one z) (by unfold maxLen; omega) (by omega) (by first | omega | (simp; omega)) ?_)
          intro v5 w5 ho5 hg5 _
          have hoA := World.ownsRow.alloc HO4.out (.cells (rgC z).toArray 43 (0, 0))
          have hbA := HB4.out.alloc HB4.out.size (.cells (rgC z).toArray 43 (0, 0))
          have HB5 : Hid (Below w.heap.size w w5) := Lib.hid (hbA.grown hg5 hbA.size (fun j hj => (hoA.lt j hj).1))
          have HO5 : Hid (rgOwn w5 w.heap.size v5 (O ++ (if keyA (fiR z) ≤ keyA (laR z) then [z] else []))) := Lib.hid (by rw [HE.out]; exact own_asT ho5 (by simp) (by simp [rwC]))
          clear ho5 hg5 hoA hbA n0 n1 n2 n3 n4 n5
          go_wp2_with fail
          go_meet
          exact ⟨⟨_, rfl, HO5.out⟩, HB5.out⟩
      case rest =>
      obtain ⟨⟨O', hO', ho5⟩, hb5⟩ := hcut
      obtain ⟨W5, rfl⟩ : ∃ W5 : World, W5 = wc := ⟨_, rfl⟩
      have HF := Lib.hid (HFO.out O' hO')
      have HO5 := Lib.hid ho5
      have HB5 := Lib.hid hb5
      obtain ⟨gA', oA', eA, hgA5, hca⟩ := (HA.out.below hb5) i hil
      obtain ⟨gB', oB', eB, hgB5, hcb⟩ := (HB.out.below hb5) k hkl
      injection eA with eA
      injection eB with eB
      simp only [Addr.mk.injEq, and_true] at eA eB
      obtain ⟨rfl, rfl⟩ := eA
      obtain ⟨rfl, rfl⟩ := eB
      rw [HXE.out] at hca
      rw [HYE.out] at hcb
      obtain ⟨x0, x1, x2, x3, x4, x5⟩ := rg_cells hca
      obtain ⟨y0, y1, y2, y3, y4, y5⟩ := rg_cells hcb
      have hcm := fun W => spanCompare_any x.six2 x.hi2 x.lo2 y.six2 y.hi2 y.lo2 W
      have hkc := (spanC_key HXO.out.l HYO.out.l).1
      have hkc1 : spanC x.six2 x.hi2 x.lo2 y.six2 y.hi2 y.lo2 < 0 ↔ keyA (laR x) < keyA (laR y) := hkc
      generalize spanC x.six2 x.hi2 x.lo2 y.six2 y.hi2 y.lo2 = c2 at *
      obtain ⟨cb2, hcb2⟩ : ∃ cb2, decide (c2 < 0) = cb2 := ⟨_, rfl⟩
      have HCB2 : Hid (cb2 = decide ((rgS x).2 < (rgS y).2)) := Lib.hid (by
        rw [← hcb2, decide_eq_decide, hkc1]
        show _ ↔ keyA (laR x) + 1 < keyA (laR y) + 1
        omega)
      have HC2 := Lib.hid hcb2
      clear hca hcb hkc hkc1 ho5 hb5 hO' HFO HO4 HB4 HGZ4 HKC HCB1 hcb1 hcb2
      go_upto_region 7 with (fail)
      go_cut [63] from 52 to 63 (fun v63 wc => v63 = .bool cb2 ∧ Below W5.heap.size W5 wc)
      case first =>
        -- R7
        refine wp_region_exact 11 (fun f' => ⟨#[.slice (some ⟨gA, oA, none⟩) L.length ca, .slice (some ⟨gB, oB, none⟩) M.length cb, undef, undef, .slice none 0 0, u5, .int .i64 i, .int .i64 k, .pointer (some ⟨g, 0, none⟩), .int .i64 i, .slice (some ⟨gA, oA, none⟩) L.length ca, .int .i64 L.length, .bool true, .bool true, .int .i64 k, .slice (some ⟨gB, oB, none⟩) M.length cb, .int .i64 M.length, .bool true, .bool true, u19, u20, u21, u22, u23, u24, u25, u26, u27, u28, u29, u30, u31, u32, u33, u34, u35, u36, u37, u38, u39, u40, u41, .pointer (some ⟨g, 0, none⟩), .agg #[Value.bool z.six, Value.int IntKind.u64 z.hi, Value.int IntKind.u64 z.lo], .pointer (some ⟨g, 3, none⟩), .agg #[Value.bool z.six2, Value.int IntKind.u64 z.hi2, Value.int IntKind.u64 z.lo2], .int .i64 c, .bool cb1, u48, u49, u50, u51, f' 0, f' 1, f' 2, f' 3, f' 4, f' 5, f' 6, f' 7, f' 8, f' 9, f' 10, u63, u64, u65, u66, u67, undef, undef], []⟩) (fun i9 => match i9 with | 0 => .slice (some ⟨gA, oA, none⟩) L.length ca | 1 => .int .i64 i | 2 => .pointer (some ⟨gA, oA + i * 6, none⟩) | 3 => .pointer (some ⟨gA, oA + i * 6 + 3, none⟩) | 4 => .agg #[.bool x.six2, .int .u64 x.hi2, .int .u64 x.lo2] | 5 => .slice (some ⟨gB, oB, none⟩) M.length cb | 6 => .int .i64 k | 7 => .pointer (some ⟨gB, oB + k * 6, none⟩) | 8 => .pointer (some ⟨gB, oB + k * 6 + 3, none⟩) | 9 => .agg #[.bool y.six2, .int .u64 y.hi2, .int .u64 y.lo2] | 10 => .int .i64 c2 | _ => undef) (fun lb w' => Hid (Below W5.heap.size W5 w')) (fun i9 => match i9 with | 0 => u52 | 1 => u53 | 2 => u54 | 3 => u55 | 4 => u56 | 5 => u57 | 6 => u58 | 7 => u59 | 8 => u60 | 9 => u61 | 10 => u62 | _ => undef) 24 (show Tryz.prog.follows .mixedOrders = true from by kernel_rfl) (by kernel_rfl) ?_ ?_ (Lib.hid (Below.refl _ _).drew)
        · intro i9 op hi9 ho lb f' w' hl hS hd
          have hcase : i9 = 0 ∨ i9 = 1 ∨ i9 = 2 ∨ i9 = 3 ∨ i9 = 4 ∨ i9 = 5 ∨ i9 = 6 ∨ i9 = 7 ∨ i9 = 8 ∨ i9 = 9 ∨ i9 = 10 := by omega
          rcases hcase with rfl | rfl | rfl | rfl | rfl | rfl | rfl | rfl | rfl | rfl | rfl <;> (replace ho := Option.some.inj ho; subst ho)
          · refine OpStep.of rfl ?_
            unfold Oper.wp
            go_simp
            first | exact ⟨by first | (simp [upd]; done) | (simp [upd]; omega), hS⟩ | (simp [upd]; done) | (simp [upd]; omega)
          · refine OpStep.of rfl ?_
            unfold Oper.wp
            go_simp
            first | exact ⟨by first | (simp [upd]; done) | (simp [upd]; omega), hS⟩ | (simp [upd]; done) | (simp [upd]; omega)
          · have e0 : f' 0 = .slice (some ⟨gA, oA, none⟩) L.length ca := (hd ⟨0, .data⟩ (by simp) rfl).2
            have e1 : f' 1 = .int .i64 i := (hd ⟨1, .data⟩ (by simp) rfl).2
            refine OpStep.of rfl ?_
            unfold Oper.wp
            go_simp
            first | exact ⟨by first | (simp [upd, e0, e1]; done) | (simp [upd, e0, e1]; omega), hS⟩ | (simp [upd, e0, e1]; done) | (simp [upd, e0, e1]; omega)
          · have e2 : f' 2 = .pointer (some ⟨gA, oA + i * 6, none⟩) := (hd ⟨2, .data⟩ (by simp) rfl).2
            refine OpStep.of rfl ?_
            unfold Oper.wp
            go_simp
            first | exact ⟨by first | (simp [upd, e2]; done) | (simp [upd, e2]; omega), hS⟩ | (simp [upd, e2]; done) | (simp [upd, e2]; omega)
          · have e3 : f' 3 = .pointer (some ⟨gA, oA + i * 6 + 3, none⟩) := (hd ⟨3, .data⟩ (by simp) rfl).2
            refine OpStep.of rfl ?_
            have x3' : w'.cell? ⟨gA, oA + i * 6 + 3, none⟩ = some (.bool x.six2) := (hS.out.cell (p := ⟨gA, _, none⟩) hgA5).trans x3
            have x4' : w'.cell? ⟨gA, oA + i * 6 + 3 + 1, none⟩ = some (.int .u64 x.hi2) := (hS.out.cell (p := ⟨gA, _, none⟩) hgA5).trans x4
            have x5' : w'.cell? ⟨gA, oA + i * 6 + 3 + 2, none⟩ = some (.int .u64 x.lo2) := (hS.out.cell (p := ⟨gA, _, none⟩) hgA5).trans x5
            unfold Oper.wp
            go_simp
            first | exact ⟨by first | (simp [upd, e3]; done) | (simp [upd, e3]; omega), hS⟩ | (simp [upd, e3]; done) | (simp [upd, e3]; omega)
          · refine OpStep.of rfl ?_
            unfold Oper.wp
            go_simp
            first | exact ⟨by first | (simp [upd]; done) | (simp [upd]; omega), hS⟩ | (simp [upd]; done) | (simp [upd]; omega)
          · refine OpStep.of rfl ?_
            unfold Oper.wp
            go_simp
            first | exact ⟨by first | (simp [upd]; done) | (simp [upd]; omega), hS⟩ | (simp [upd]; done) | (simp [upd]; omega)
          · have e5 : f' 5 = .slice (some ⟨gB, oB, none⟩) M.length cb := (hd ⟨5, .data⟩ (by simp) rfl).2
            have e6 : f' 6 = .int .i64 k := (hd ⟨6, .data⟩ (by simp) rfl).2
            refine OpStep.of rfl ?_
            unfold Oper.wp
            go_simp
            first | exact ⟨by first | (simp [upd, e5, e6]; done) | (simp [upd, e5, e6]; omega), hS⟩ | (simp [upd, e5, e6]; done) | (simp [upd, e5, e6]; omega)
          · have e7 : f' 7 = .pointer (some ⟨gB, oB + k * 6, none⟩) := (hd ⟨7, .data⟩ (by simp) rfl).2
            refine OpStep.of rfl ?_
            unfold Oper.wp
            go_simp
            first | exact ⟨by first | (simp [upd, e7]; done) | (simp [upd, e7]; omega), hS⟩ | (simp [upd, e7]; done) | (simp [upd, e7]; omega)
          · have e8 : f' 8 = .pointer (some ⟨gB, oB + k * 6 + 3, none⟩) := (hd ⟨8, .data⟩ (by simp) rfl).2
            refine OpStep.of rfl ?_
            have y3' : w'.cell? ⟨gB, oB + k * 6 + 3, none⟩ = some (.bool y.six2) := (hS.out.cell (p := ⟨gB, _, none⟩) hgB5).trans y3
            have y4' : w'.cell? ⟨gB, oB + k * 6 + 3 + 1, none⟩ = some (.int .u64 y.hi2) := (hS.out.cell (p := ⟨gB, _, none⟩) hgB5).trans y4
            have y5' : w'.cell? ⟨gB, oB + k * 6 + 3 + 2, none⟩ = some (.int .u64 y.lo2) := (hS.out.cell (p := ⟨gB, _, none⟩) hgB5).trans y5
            unfold Oper.wp
            go_simp
            first | exact ⟨by first | (simp [upd, e8]; done) | (simp [upd, e8]; omega), hS⟩ | (simp [upd, e8]; done) | (simp [upd, e8]; omega)
          · have e4 : f' 4 = .agg #[.bool x.six2, .int .u64 x.hi2, .int .u64 x.lo2] := (hd ⟨4, .data⟩ (by simp) rfl).2
            have e9 : f' 9 = .agg #[.bool y.six2, .int .u64 y.hi2, .int .u64 y.lo2] := (hd ⟨9, .data⟩ (by simp) rfl).2
            refine OpStep.of rfl ?_
            unfold Oper.wp
            go_simp
            refine (hcm w').mono ?_
            rintro e w9 ⟨rfl, hb9⟩
            exact ⟨by simp [upd, e4, e9], Lib.hid (hS.out.trans (hb9.mono hS.out.size))⟩
        · intro op ho lb f' w' hd hS
          have e10 : f' 10 = .int .i64 c2 := (hd 10 (by omega)).2
          replace ho := Option.some.inj ho
          subst ho
          refine ⟨rfl, ?_⟩
          unfold Oper.wp
          go_simp
          first | (go_step; go_step; go_meet) | (go_step; go_meet) | go_meet | skip
          exact ⟨by rw [HC2.out], hS.out⟩
        -- END R7
      case rest =>
      obtain ⟨rfl, hb6⟩ := hcut
      have HB6 := Lib.hid (HB5.out.trans (hb6.mono HB5.out.size))
      have HO6 := Lib.hid (own_belowR HO5.out hb6 (Nat.le_refl _))
      clear hb6 x0 x1 x2 x3 x4 x5 y0 y1 y2 y3 y4 y5 hcm HB5 HO5
      obtain ⟨f1, f2, f3⟩ := HF.out
      cases cb2
      · have HR : Hid (BoI w SA SB i (k + 1) u5 wc) := Lib.hid ⟨HB6.out, O', HO6.out, by omega, f2, by rw [if_neg (of_decide_eq_false HCB2.out.symm)] at f3; exact f3⟩
        clear f1 f2 f3
        go_wp2_with fail
        go_roundw
        case rel => exact ⟨i, k + 1, by omega, by omega, rfl, by simp, HR.out⟩
        case measure => simp [intOf]; omega
      · have HR : Hid (BoI w SA SB (i + 1) k u5 wc) := Lib.hid ⟨HB6.out, O', HO6.out, by omega, f2, by rw [if_pos (of_decide_eq_true HCB2.out.symm)] at f3; exact f3⟩
        clear f1 f2 f3
        go_wp2_with fail
        go_roundw
        case rel => exact ⟨i + 1, k, by omega, by omega, by simp, rfl, HR.out⟩
        case measure => simp [intOf]; omega
    · obtain ⟨O, hO, hOl, hOk, hOm⟩ := HIN.out.row
      have hend : SA.drop i = [] ∨ SB.drop k = [] := by
        have e1 : SA.length = L.length := by rw [← HL.out.map, List.length_map]
        have e2 : SB.length = M.length := by rw [← HM.out.map, List.length_map]
        by_cases h : i < L.length
        · exact .inr (List.drop_eq_nil_of_le (by omega))
        · exact .inl (List.drop_eq_nil_of_le (by omega))
      rw [bothS_end hend, List.append_nil] at hOm
      obtain ⟨A3, c3, rfl, ha3⟩ := rw_at (d := noRg) rgC_len hO
      have hjn := joined_any A3 c3 O wr ha3 (fun hn => by
        subst hn
        rcases hO.2 with ⟨_, h⟩ | ⟨g, cp, cur, e, _⟩
        · exact List.length_eq_zero_iff.1 h
        · cases e) hOk (by omega)
      have HB9 := Lib.hid HIN.out.below
      have hbl := bothS_law _ SA SB (Nat.le_refl _) HL.out.norm HM.out.norm
      have HFN : Hid (∀ n, hasS (O.map rgS) n ↔ hasS SA n ∧ hasS SB n) := Lib.hid (by rw [hOm]; exact hbl.1)
      have HOL : Hid (O.length ≤ L.length + M.length) := Lib.hid (by omega)
      clear hO hOk hOm ha3 hbl hend hOl
      by_cases hil : i < L.length
      · have hkk : ¬ k < M.length := fun h => hgo ⟨hil, h⟩
        have hd1 : decide ((i : Int) < (L.length : Int)) = true := by simp; omega
        have hd2 : decide ((k : Int) < (M.length : Int)) = false := by simp; omega
        go_wp2_with fail
        refine hjn.mono ?_
        rintro e W9 ⟨v, R, rfl, ho9, hr9, hn9, hs9, hl9, hb9⟩
        have H9 : Hid (RgsOut w (fun k => hasS SA k ∧ hasS SB k) (L.length + M.length) (.returned v) W9) := Lib.hid ⟨v, R, R.map rgS, rfl, own_base ho9 HB9.out.size, ⟨hr9, rfl, hn9⟩, fun n => (hs9 n).trans (HFN.out n), Nat.le_trans hl9 HOL.out, HB9.out.trans (hb9.mono HB9.out.size)⟩
        clear ho9 hr9 hn9 hs9 hl9 hb9 hjn
        go_wp2_with fail
        go_ret
        exact H9.out
      · have hd1 : decide ((i : Int) < (L.length : Int)) = false := by simp; omega
        go_wp2_with fail
        refine hjn.mono ?_
        rintro e W9 ⟨v, R, rfl, ho9, hr9, hn9, hs9, hl9, hb9⟩
        have H9 : Hid (RgsOut w (fun k => hasS SA k ∧ hasS SB k) (L.length + M.length) (.returned v) W9) := Lib.hid ⟨v, R, R.map rgS, rfl, own_base ho9 HB9.out.size, ⟨hr9, rfl, hn9⟩, fun n => (hs9 n).trans (HFN.out n), Nat.le_trans hl9 HOL.out, HB9.out.trans (hb9.mono HB9.out.size)⟩
        clear ho9 hr9 hn9 hs9 hl9 hb9 hjn
        go_wp2_with fail
        go_ret
        exact H9.out
end Go.Proofs.YtajifionclpphaaGreatDoor

namespace Go.Proofs.YtajifionclpphaaGreatDoor
open Go.RowKit Go.Hw
theorem own_apart {w : World} {base b size n : Nat} {e : TypeId} {v : Value} {xs : List Value} {cs : Array Value} {T : TypeId} (h : w.ownsRow base e size v n xs) (hb : w.heap[b]? = some (.cells cs T (0, 0))) (hT : T ≠ e) : ∀ k, v.ownBlock = some k → k ≠ b := by
  rintro k hk rfl
  obtain ⟨_, h⟩ := h
  rcases h with ⟨rfl, _⟩ | ⟨g, cap, cur, rfl, h1, h2, h3⟩
  · cases hk
  · injection hk with hk
    subst hk
    rw [h2] at hb
    injection hb with hb
    injection hb with h4 h5
    exact hT h5.symm
/-- Where a family begins; what is not there of it. -/
def famB (s : Bool) : Nat := if s then sixAt else 0
def famR (s : Bool) (S : List Sn) : List Sn := restG (famE s) (famB s) true (famS s S)
def outR (S : List Sn) (j : Nat) : List Sn := if j = 0 then [] else if j = 1 then famR false S else restS S
theorem outR_step (S : List Sn) {j : Nat} (hj : j < 2) : outR S (j + 1) = outR S j ++ famR (decide (j = 1)) S := by
  have : j = 0 ∨ j = 1 := by omega
  rcases this with rfl | rfl <;> rfl
theorem last_fam {x : Ad} (hx : fineA x) : fineA ⟨x.six, fil x.hi ((lenA x.six).toNat - 64), fil x.lo (min 64 (lenA x.six).toNat)⟩ ∧ keyA ⟨x.six, fil x.hi ((lenA x.six).toNat - 64), fil x.lo (min 64 (lenA x.six).toNat)⟩ + 1 = famE x.six := by
  obtain ⟨e1, e2⟩ := fil_all hx
  unfold fineA
  dsimp only
  rw [e1, e2]
  unfold AddrFine keyA famE keyN nOf
  dsimp only
  cases x.six
  · obtain ⟨l1, l2, l3⟩ := low_four
    rw [l1, l2, l3]
    simp
  · obtain ⟨l1, l2, l3⟩ := low_six
    rw [l1, l2, l3]
    simp
/-- Where the rest goes on. -/
def topR (left : Bool) (x : Ad) : Nat := if left then keyA x else famE x.six
theorem famS_skip {s : Bool} {y : Sn} {l : List Sn} (h : sixS y ≠ s) : famS s (y :: l) = famS s l := by
  unfold famS
  rw [List.filter_cons_of_neg (by simp [h])]
theorem famS_take {s : Bool} {y : Sn} {l : List Sn} (h : sixS y = s) : famS s (y :: l) = y :: famS s l := by
  unfold famS
  rw [List.filter_cons_of_pos (by simp [h])]
/-- Behind a range that ends its family, there is none of it. -/
theorem famS_end {s : Bool} {y : Sn} {l : List Sn} (hn : NormS (y :: l)) (hf : ∀ x ∈ y :: l, famOk x) (h : sixS y = s) (he : y.2 = famE s) : famS s l = [] := by
  unfold famS
  rw [List.filter_eq_nil_iff]
  intro z hz
  have h1 := (List.pairwise_cons.1 hn.gap).1 z hz
  have h2 := hn.ok z (by simp [hz])
  intro hs
  have hs : sixS z = s := by simpa using hs
  rcases hf z (by simp [hz]) with ⟨h3, h4⟩ | ⟨h3, h4⟩ <;> rw [hs] at h3 <;> subst h3 <;> omega
structure ReI (w : World) (S : List Sn) (six : Bool) (pre : List Sn) (na k : Nat) (v3 v7 : Value) (wr : World) : Prop where
  below : Below w.heap.size w wr
  row : ∃ (O : List Rg) (x : Ad) (left : Bool), v7 = .bool left ∧ rgOwn wr w.heap.size v3 O ∧ O.length ≤ pre.length + k ∧ (∀ r ∈ O, okR r) ∧ fineA x ∧ x.six = six ∧ wr.heap[na]? = some (.cells #[.bool x.six, .int .u64 x.hi, .int .u64 x.lo] 30 (0, 0)) ∧ (left = false → famS six (S.drop k) = []) ∧ O.map rgS ++ restG (famE six) (topR left x) left (famS six (S.drop k)) = pre ++ famR six S
theorem restG_len (hi : Nat) : ∀ (l : List Sn) (a : Nat) (b : Bool), (restG hi a b l).length ≤ l.length + 1
  | [], a, b => by unfold restG; split <;> simp
  | r :: l, a, b => by
    unfold restG
    have := restG_len hi l r.2 (decide (r.2 < hi))
    rw [List.length_append, List.length_cons]
    split <;> simp <;> omega
theorem famS_len (s : Bool) (S : List Sn) : (famS s S).length ≤ S.length := List.length_filter_le _ _
theorem outR_len (S : List Sn) (j : Nat) : (outR S j).length ≤ 2 * S.length + 2 := by
  have h1 := restG_len (famE false) (famS false S) (famB false) true
  have h2 := restG_len (famE true) (famS true S) (famB true) true
  have h3 := famS_len false S
  have h4 := famS_len true S
  have e : restS S = famR false S ++ famR true S := rfl
  unfold outR
  split
  · simp
  · split
    · unfold famR; omega
    · rw [e, List.length_append]; unfold famR; omega
set_option maxRecDepth 100000 in
set_option maxHeartbeats 4000000 in
theorem rest_any (A : Option Addr) (ca : Nat) (L : List Rg) (S : List Sn) (w : World) (hA : rgAt w A L) (hL : RgsIs L S) (h1 : L.length ≤ 10000) :
    Calls Tryz.prog 41 #[.slice A L.length ca] w fun e w' => ∃ v R, e = .returned v ∧ rgOwn w' w.heap.size v R ∧ RgsIs R (restS S) ∧ Below w.heap.size w w' := by
  obtain ⟨i0, hi0, hz0, hz1, hz2⟩ := info_parts rg_info
  have HA := Lib.hid hA
  have HL := Lib.hid hL
  clear hA hL
  have HSL : Hid (S.length = L.length) := Lib.hid (by rw [← HL.out.map, List.length_map])
  have HB0 := Lib.hid ((Below.refl w.heap.size w).alloc (Nat.le_refl _) (.cells #[.bool false, .bool true] 4 (0, 0)))
  have HZ0 := Lib.hid (heap_alloc_new w (.cells #[.bool false, .bool true] 4 (0, 0)))
  go_enter Tryz.func41, Tryz.ntmps41
  go_wp2_with fail
  generalize World.alloc w _ = W0 at *
  go_loopw [3, 5, 6, 7, 9, 12, 20] (fun v3 _ _ _ _ v12 _ wr => ∃ (j : Nat) (O : List Rg) (sv : Value), j ≤ 2 ∧ v12 = .int .i64 j ∧ sv = v3 ∧ rgOwn wr w.heap.size sv O ∧ (∀ r ∈ O, okR r) ∧ O.map rgS = outR S j ∧ Below w.heap.size w wr ∧ wr.heap[w.heap.size]? = some (.cells #[.bool false, .bool true] 4 (0, 0))) (fun _ _ _ _ _ v12 _ _ => 2 - (intOf v12).toNat)
  case atStart => exact ⟨0, [], _, by omega, rfl, rfl, World.ownsRow_nil _ _ _ _, (by intro r hr; cases hr), rfl, HB0.out, HZ0.out⟩
  case round =>
    obtain ⟨j, O, sv, hj, rfl, rfl, ho, hok, hom, hb, hz⟩ := hrel
    by_cases hlt : j < 2
    · have hjc : j = 0 ∨ j = 1 := by omega
      obtain ⟨six, hsix⟩ : ∃ six, decide (j = 1) = six := ⟨_, rfl⟩
      have HST := Lib.hid (outR_step S hlt)
      rw [hsix] at HST
      have hld : ∃ q, q = six ∧ wr.cell? ⟨w.heap.size, j, none⟩ = some (.bool q) := by
        refine ⟨six, rfl, ?_⟩
        rw [← hsix]
        rcases hjc with rfl | rfl <;> simp [World.cell?, hz]
      obtain ⟨q, hq, hld⟩ := hld
      subst hq
      have hd : decide ((j : Int) < 2) = true := by simp; omega
      have hj2 : (j : Int) < 2 := by omega
      have HPI : Hid (ReI w S q (outR S j) wr.heap.size 0 sv (.bool true) (wr.alloc (.cells #[.bool q, .int .u64 0, .int .u64 0] 30 (0, 0)))) := Lib.hid ⟨hb.alloc hb.size _, O, ⟨q, 0, 0⟩, true, rfl, World.ownsRow.alloc ho _, by rw [← hom, List.length_map]; omega, hok, by unfold fineA AddrFine; simp, rfl, heap_alloc_new wr _, (fun h => by cases h), by
        rw [hom]
        have e : topR true ⟨q, 0, 0⟩ = famB q := by unfold topR keyA keyN nOf famB; cases q <;> simp
        rw [e]
        rfl⟩
      have HNA : Hid (w.heap.size < wr.heap.size) := Lib.hid (lt_of_block hz)
      have HZ1 := Lib.hid ((heap_alloc_old wr (.cells #[.bool q, .int .u64 0, .int .u64 0] 30 (0, 0)) (lt_of_block hz)).trans hz)
      clear ho hok hom hb hz hsix hjc HB0 HZ0
      go_wp2_with fail
      generalize World.alloc wr _ = W1 at *
      generalize wr.heap.size = na at *
      go_loopw [3, 7, 9, 20] (fun v3 v7 _ v20 wi => ∃ (k : Nat) (sv2 : Value), k ≤ L.length ∧ v20 = .int .i64 k ∧ sv2 = v3 ∧ ReI w S q (outR S j) na k sv2 v7 wi ∧ wi.heap[w.heap.size]? = some (.cells #[.bool false, .bool true] 4 (0, 0))) (fun _ _ _ v20 _ => L.length - (intOf v20).toNat)
      case atStart => exact ⟨0, _, by omega, rfl, rfl, HPI.out, HZ1.out⟩
      case round =>
        obtain ⟨k, sv2, hk, rfl, rfl, hin, hzz⟩ := hrel
        obtain ⟨O, x, left, rfl, ho, hol, hok, hx, hx6, hna, hle, hom⟩ := hin.row
        have HBW := Lib.hid hin.below
        have HO := Lib.hid ho
        have HOL := Lib.hid hol
        have HOK := Lib.hid hok
        have HX := Lib.hid hx
        have HX6 := Lib.hid hx6
        have HNX := Lib.hid hna
        have HLE := Lib.hid hle
        have HOM := Lib.hid hom
        have HZZ := Lib.hid hzz
        have hnaw := lt_of_block hna
        have hbz := lt_of_block hzz
        clear hin ho hol hok hx hx6 hna hle hom hzz HPI
        by_cases hkl : k < L.length
        · obtain ⟨gA, oA, rfl, hgA, hca⟩ := (HA.out.below HBW.out) k hkl
          obtain ⟨c0, c1, c2, c3, c4, c5⟩ := rg_cells hca
          have hdk : decide ((k : Int) < (L.length : Int)) = true := by simp; omega
          have HRO := Lib.hid (HL.out.ok (L.getD k noRg) (rw_mem hkl))
          have HDR := Lib.hid (drop_at hkl)
          rw [HL.out.map] at HDR
          generalize L.getD k noRg = r at *
          have HRF := Lib.hid (rgS_fam HRO.out)
          have HBX := Lib.hid (HBW.out.alloc HBW.out.size (.cells #[.bool r.six, .int .u64 r.hi, .int .u64 r.lo, .bool r.six2, .int .u64 r.hi2, .int .u64 r.lo2] 43 (0, 0)))
          have HRX := Lib.hid (heap_alloc_new wr (.cells #[.bool r.six, .int .u64 r.hi, .int .u64 r.lo, .bool r.six2, .int .u64 r.hi2, .int .u64 r.lo2] 43 (0, 0)))
          have HOX := Lib.hid (World.ownsRow.alloc HO.out (.cells #[.bool r.six, .int .u64 r.hi, .int .u64 r.lo, .bool r.six2, .int .u64 r.hi2, .int .u64 r.lo2] 43 (0, 0)))
          have HNB := Lib.hid ((heap_alloc_old wr (.cells #[.bool r.six, .int .u64 r.hi, .int .u64 r.lo, .bool r.six2, .int .u64 r.hi2, .int .u64 r.lo2] 43 (0, 0)) hnaw).trans HNX.out)
          have HZB := Lib.hid ((heap_alloc_old wr (.cells #[.bool r.six, .int .u64 r.hi, .int .u64 r.lo, .bool r.six2, .int .u64 r.hi2, .int .u64 r.lo2] 43 (0, 0)) hbz).trans HZZ.out)
          have HAPR : Hid (∀ b, sv2.ownBlock = some b → b < wr.heap.size) := Lib.hid (fun b hb => (HO.out.lt b hb).2)
          clear hca
          go_upto_region 9 with (fail)
          generalize World.alloc wr _ = W2 at *
          generalize wr.heap.size = nr at *
          obtain ⟨⟨n0, n1, n2, n3, n4, n5⟩, -⟩ := res6r HRX.out
          clear HO HNX HZZ hnaw hbz c0 c1 c2 c3 c4 c5
          by_cases hs : r.six = q
          · have HS : Hid (r.six = q) := Lib.hid hs
            subst hs
            cases left
            · exfalso
              have h1 := HLE.out rfl
              rw [HDR.out, famS_take HRF.out.2] at h1
              cases h1
            · have hcm := fun W => spanCompare_any x.six x.hi x.lo r.six r.hi r.lo W
              have hkc := (spanC_key HX.out HRO.out.f).1
              have hkc1 : spanC x.six x.hi x.lo r.six r.hi r.lo < 0 ↔ keyA x < keyA (fiR r) := hkc
              generalize spanC x.six x.hi x.lo r.six r.hi r.lo = c at *
              obtain ⟨cb, hcb⟩ : ∃ cb, decide (c < 0) = cb := ⟨_, rfl⟩
              have HCB : Hid (cb = decide (keyA x < keyA (fiR r))) := Lib.hid (by rw [← hcb, decide_eq_decide, hkc1])
              have HBF := Lib.hid (fun h => bf_key (x := fiR r) HRO.out.f h)
              have HPOS : Hid (keyA x < keyA (fiR r) → 0 < nOf r.hi r.lo) := Lib.hid (fun h => by
                have e1 : keyA x = keyN r.six (nOf x.hi x.lo) := by unfold keyA; rw [HX6.out]
                have e2 : keyA (fiR r) = keyN r.six (nOf r.hi r.lo) := rfl
                rw [e1, e2] at h
                unfold keyN at h
                omega)
              have HCH := Lib.hid hcb
              obtain ⟨x0, x1, x2, -⟩ := res3 HNB.out
              have hnr := lt_of_block HRX.out
              have hna2 := lt_of_block HNB.out
              clear hkc hkc1
              go_upto_if 28 with (fail)
              go_wp2_with fail
              refine (hcm W2).mono ?_
              rintro e W3 ⟨rfl, hb3⟩
              have HB3 := Lib.hid (HBX.out.trans (hb3.mono HBX.out.size))
              have HO3 := Lib.hid (own_belowR HOX.out hb3 (Nat.le_refl _))
              have HR3 := Lib.hid ((hb3.block _ hnr).trans HRX.out)
              have HN3 := Lib.hid ((hb3.block _ hna2).trans HNB.out)
              have HZ3 := Lib.hid ((hb3.block _ (lt_of_block HZB.out)).trans HZB.out)
              have hnr3 := lt_of_block HR3.out
              have hna3 := lt_of_block HN3.out
              obtain ⟨⟨n0, n1, n2, n3, n4, n5⟩, -⟩ := res6r HR3.out
              obtain ⟨x0, x1, x2, -⟩ := res3 HN3.out
              have HAPN := Lib.hid (own_apart HO3.out HN3.out (by decide))
              have HAPZ := Lib.hid (own_apart HO3.out HZ3.out (by decide))
              clear hb3 hcm HBX HOX HRX HNB HZB hnr hna2
              go_upto_if 33 with (fail)
              go_cut [3] from 34 to 41 (fun v3 wc => (∃ O', O' = O ++ (if keyA x < keyA (fiR r) then [(⟨x.six, x.hi, x.lo, r.six, bfH r.hi r.lo, bfL r.lo⟩ : Rg)] else []) ∧ rgOwn wc w.heap.size v3 O') ∧ Below w.heap.size w wc ∧ wc.heap[nr]? = W3.heap[nr]? ∧ wc.heap[na]? = W3.heap[na]? ∧ wc.heap[w.heap.size]? = W3.heap[w.heap.size]?)
              case first =>
                cases cb
                · have HF : Hid (rgOwn W3 w.heap.size sv2 (O ++ (if keyA x < keyA (fiR r) then [(⟨x.six, x.hi, x.lo, r.six, bfH r.hi r.lo, bfL r.lo⟩ : Rg)] else []))) := Lib.hid (by rw [if_neg (of_decide_eq_false HCB.out.symm), List.append_nil]; exact HO3.out)
                  go_wp2_with fail
                  go_meet
                  exact ⟨⟨_, rfl, HF.out⟩, HB3.out, rfl, rfl, rfl⟩
                · have HLT := Lib.hid (of_decide_eq_true HCB.out.symm)
                  have HE : Hid (O ++ (if keyA x < keyA (fiR r) then [(⟨x.six, x.hi, x.lo, r.six, bfH r.hi r.lo, bfL r.lo⟩ : Rg)] else []) = O ++ [(⟨x.six, x.hi, x.lo, r.six, bfH r.hi r.lo, bfL r.lo⟩ : Rg)]) := Lib.hid (by rw [if_pos HLT.out])
                  have hbf := fun W => before_any r.six r.hi r.lo W HRO.out.f.1 HRO.out.f.2.1 (HPOS.out HLT.out)
                  generalize bfH r.hi r.lo = bh at *
                  generalize bfL r.lo = bl at *
                  have HOLB : Hid (O.length + 1 ≤ 100000) := Lib.hid (by have h2 := HOL.out; have h3 := outR_len S j; have h4 := HSL.out; omega)
                  go_upto_region 11 with (fail)
                  -- R11
                  refine wp_region_app 7 (fun f' => ⟨#[.slice (some ⟨gA, oA, none⟩) L.length ca, undef, .slice none 0 0, sv2, undef, .bool r.six, .pointer (some ⟨na, 0, none⟩), .bool true, undef, .pointer (some ⟨nr, 0, none⟩), .slice (some ⟨w.heap.size, 0, none⟩) 2 2, .int .i64 2, .int .i64 j, .bool true, .pointer (some ⟨w.heap.size, j, none⟩), .bool r.six, .bool r.six, .agg #[Value.bool r.six, Value.int IntKind.u64 0, Value.int IntKind.u64 0], .slice (some ⟨gA, oA, none⟩) L.length ca, .int .i64 L.length, .int .i64 k, .bool true, .pointer (some ⟨gA, oA + k * 6, none⟩), .agg #[Value.bool r.six, Value.int IntKind.u64 r.hi, Value.int IntKind.u64 r.lo, Value.bool r.six2, Value.int IntKind.u64 r.hi2, Value.int IntKind.u64 r.lo2], .pointer (some ⟨nr, 0, none⟩), .pointer (some ⟨nr, 0, none⟩), .bool r.six, .bool r.six, .bool false, .agg #[Value.bool x.six, Value.int IntKind.u64 x.hi, Value.int IntKind.u64 x.lo], .pointer (some ⟨nr, 0, none⟩), .agg #[Value.bool r.six, Value.int IntKind.u64 r.hi, Value.int IntKind.u64 r.lo], .int .i64 c, .bool true, f' 0, f' 1, f' 2, f' 3, f' 4, f' 5, f' 6, u41, u42, u43, u44, u45, u46, u47, u48, u49, u50, u51, u52, u53, u54, u55, u56, u57, undef], []⟩) [VE (sv2), VE (.agg #[.bool x.six, .int .u64 x.hi, .int .u64 x.lo]), VE (.pointer (some ⟨nr, 0, none⟩)), VE (.agg #[.bool r.six, .int .u64 r.hi, .int .u64 r.lo]), VE (.agg #[.bool r.six, .int .u64 bh, .int .u64 bl]), VE (.agg #[.bool x.six, .int .u64 x.hi, .int .u64 x.lo, .bool r.six, .int .u64 bh, .int .u64 bl]), VX #[.bool x.six, .int .u64 x.hi, .int .u64 x.lo, .bool r.six, .int .u64 bh, .int .u64 bl] 43 1] W3 (fun i9 => match i9 with | 0 => u34 | 1 => u35 | 2 => u36 | 3 => u37 | 4 => u38 | 5 => u39 | 6 => u40 | _ => undef) (fun a' w' => ∃ (v9 : Value) (f' : Nat → Value), a' = ⟨#[.slice (some ⟨gA, oA, none⟩) L.length ca, undef, .slice none 0 0, sv2, undef, .bool r.six, .pointer (some ⟨na, 0, none⟩), .bool true, undef, .pointer (some ⟨nr, 0, none⟩), .slice (some ⟨w.heap.size, 0, none⟩) 2 2, .int .i64 2, .int .i64 j, .bool true, .pointer (some ⟨w.heap.size, j, none⟩), .bool r.six, .bool r.six, .agg #[Value.bool r.six, Value.int IntKind.u64 0, Value.int IntKind.u64 0], .slice (some ⟨gA, oA, none⟩) L.length ca, .int .i64 L.length, .int .i64 k, .bool true, .pointer (some ⟨gA, oA + k * 6, none⟩), .agg #[Value.bool r.six, Value.int IntKind.u64 r.hi, Value.int IntKind.u64 r.lo, Value.bool r.six2, Value.int IntKind.u64 r.hi2, Value.int IntKind.u64 r.lo2], .pointer (some ⟨nr, 0, none⟩), .pointer (some ⟨nr, 0, none⟩), .bool r.six, .bool r.six, .bool false, .agg #[Value.bool x.six, Value.int IntKind.u64 x.hi, Value.int IntKind.u64 x.lo], .pointer (some ⟨nr, 0, none⟩), .agg #[Value.bool r.six, Value.int IntKind.u64 r.hi, Value.int IntKind.u64 r.lo], .int .i64 c, .bool true, f' 0, f' 1, f' 2, f' 3, f' 4, f' 5, f' 6, v9, u42, u43, u44, u45, u46, u47, u48, u49, u50, u51, u52, u53, u54, u55, u56, u57, undef], []⟩ ∧ rgOwn w' w.heap.size v9 (O ++ (if keyA x < keyA (fiR r) then [(⟨x.six, x.hi, x.lo, r.six, bh, bl⟩ : Rg)] else [])) ∧ Below w.heap.size w w' ∧ w'.heap[nr]? = W3.heap[nr]? ∧ w'.heap[na]? = W3.heap[na]? ∧ w'.heap[w.heap.size]? = W3.heap[w.heap.size]?) (show Tryz.prog.follows .mixedOrders = true from by kernel_rfl) (by kernel_rfl) ?_ ?_ ?_ ?_ rfl
                  · intro p hp
                    simp only [List.mem_cons, List.mem_nil_iff, or_false] at hp
                    rcases hp with rfl | rfl | rfl | rfl | rfl | rfl | rfl <;> first | exact VE.kept _ | exact VX.kept _ _ _
                  · intro i9 op hi9 ho f' w' hS hd
                    have hcase : i9 = 0 ∨ i9 = 1 ∨ i9 = 2 ∨ i9 = 3 ∨ i9 = 4 ∨ i9 = 5 ∨ i9 = 6 := by omega
                    rcases hcase with rfl | rfl | rfl | rfl | rfl | rfl | rfl <;> (replace ho := Option.some.inj ho; subst ho)
                    · refine ⟨rfl, ?_⟩
                      unfold Oper.wp
                      go_simp
                      exact ⟨_, (by first | (simp [upd]; done) | (simp [upd]; omega)), rfl, Below.refl _ _⟩
                    · refine ⟨rfl, ?_⟩
                      have x0' : w'.cell? ⟨na, 0, none⟩ = some (.bool x.six) := (hS.out.cell (p := ⟨na, _, none⟩) hna3).trans x0
                      have x1' : w'.cell? ⟨na, 1, none⟩ = some (.int .u64 x.hi) := (hS.out.cell (p := ⟨na, _, none⟩) hna3).trans x1
                      have x2' : w'.cell? ⟨na, 2, none⟩ = some (.int .u64 x.lo) := (hS.out.cell (p := ⟨na, _, none⟩) hna3).trans x2
                      unfold Oper.wp
                      go_simp
                      exact ⟨_, (by first | (simp [upd]; done) | (simp [upd]; omega)), rfl, Below.refl _ _⟩
                    · refine ⟨rfl, ?_⟩
                      unfold Oper.wp
                      go_simp
                      exact ⟨_, (by first | (simp [upd]; done) | (simp [upd]; omega)), rfl, Below.refl _ _⟩
                    · have e2 : f' 2 = _ := hd ⟨2, .data⟩ (by simp) rfl
                      refine ⟨rfl, ?_⟩
                      have n0' : w'.cell? ⟨nr, 0, none⟩ = some (.bool r.six) := (hS.out.cell (p := ⟨nr, _, none⟩) hnr3).trans n0
                      have n1' : w'.cell? ⟨nr, 1, none⟩ = some (.int .u64 r.hi) := (hS.out.cell (p := ⟨nr, _, none⟩) hnr3).trans n1
                      have n2' : w'.cell? ⟨nr, 2, none⟩ = some (.int .u64 r.lo) := (hS.out.cell (p := ⟨nr, _, none⟩) hnr3).trans n2
                      unfold Oper.wp
                      go_simp
                      exact ⟨_, (by first | (simp [upd, e2]; done) | (simp [upd, e2]; omega)), rfl, Below.refl _ _⟩
                    · have e3 : f' 3 = _ := hd ⟨3, .data⟩ (by simp) rfl
                      refine ⟨rfl, ?_⟩
                      unfold Oper.wp
                      go_simp
                      refine (hbf w').mono ?_
                      rintro e w9 ⟨rfl, hb9⟩
                      exact ⟨_, (by simp [upd, e3]), rfl, hb9⟩
                    · have e1 : f' 1 = _ := hd ⟨1, .data⟩ (by simp) rfl
                      have e4 : f' 4 = _ := hd ⟨4, .data⟩ (by simp) rfl
                      refine ⟨rfl, ?_⟩
                      unfold Oper.wp
                      go_simp
                      exact ⟨_, (by first | (simp [upd, e1, e4]; done) | (simp [upd, e1, e4]; omega)), rfl, Below.refl _ _⟩
                    · have e5 : f' 5 = _ := hd ⟨5, .data⟩ (by simp) rfl
                      refine ⟨rfl, ?_⟩
                      unfold Oper.wp
                      go_simp
                      exact ⟨_, (by simp [upd, e5]), ⟨_, rfl, heap_alloc_new _ _⟩, (Below.refl _ _).alloc (Nat.le_refl _) _⟩
                  · intro op ho f' w' hS hd
                    have e0 : f' 0 = _ := hd 0 (by omega)
                    obtain ⟨g9, e9, hg9⟩ := hd 6 (by omega)
                    replace ho := Option.some.inj ho
                    subst ho
                    refine ⟨rfl, ?_⟩
                    have hoW := own_belowR HO3.out hS.out (Nat.le_refl _)
                    have hbW := HB3.out.trans (hS.out.mono HB3.out.size)
                    refine wp_append_own w' (.tmp 34) (.tmp 40) 75 rfl w.heap.size 43 i0 (.agg #[.bool false, .int .u64 0, .int .u64 0, .bool false, .int .u64 0, .int .u64 0]) 6 48 Tryz.underlying75 hi0 hz0 hz1 hz2 rfl (by decide) _ _ _ e0 hoW ⟨g9, 0, none⟩ 1 1 [.bool x.six, .int .u64 x.hi, .int .u64 x.lo, .bool r.six, .int .u64 bh, .int .u64 bl] e9 rfl (cells_blk hg9) (by simp [Value.oneCell']) (by have := HOLB.out; unfold maxLen; omega) (by have := HOLB.out; omega) hbW.size ?_
                    intro v9 w9 ho9 hg9 _
                    exact ⟨v9, f', rfl, own_asT ho9 (by rw [HE.out]; simp) (by rw [HE.out]; simp [rwC, rgC]), hbW.grown hg9 hbW.size (fun j hj => (hoW.lt j hj).1), (hg9.block nr (Nat.lt_of_lt_of_le hnr3 hS.out.size) (fun h => by have := HAPR.out _ h.symm; omega)).trans (hS.out.block _ hnr3), (hg9.block na (Nat.lt_of_lt_of_le hna3 hS.out.size) (fun h => HAPN.out _ h.symm rfl)).trans (hS.out.block _ hna3), (hg9.block w.heap.size (Nat.lt_of_lt_of_le (lt_of_block HZ3.out) hS.out.size) (fun h => HAPZ.out _ h.symm rfl)).trans (hS.out.block _ (lt_of_block HZ3.out))⟩
                  · intro op ho a w' hR
                    obtain ⟨v9, f', rfl, hF⟩ := hR
                    have HF9 := Lib.hid hF
                    clear hF
                    replace ho := Option.some.inj ho
                    subst ho
                    refine ⟨rfl, ?_⟩
                    unfold Oper.wp
                    go_simp
                    go_step
                    first | (go_step; go_step; go_meet) | (go_step; go_meet) | go_meet | skip
                    exact ⟨⟨_, rfl, HF9.out.1⟩, HF9.out.2⟩
                  -- END R11
              case rest =>
              obtain ⟨⟨O', hO', ho4⟩, hb4, e1, e2, e3⟩ := hcut
              obtain ⟨W4, rfl⟩ : ∃ W4 : World, W4 = wc := ⟨_, rfl⟩
              have HB4 := Lib.hid hb4
              have HO4 := Lib.hid ho4
              have HOE := Lib.hid hO'
              have HR4 := Lib.hid (e1.trans HR3.out)
              have HN4 := Lib.hid (e2.trans HN3.out)
              have HZ4 := Lib.hid (e3.trans HZ3.out)
              have hnx := fun W => next_any' r.six2 r.hi2 r.lo2 W HRO.out.l
              have HEK := Lib.hid (end_key HRO.out.l)
              have HNK := Lib.hid (fun he => next_key HRO.out.l he)
              obtain ⟨⟨n0, n1, n2, n3, n4, n5⟩, -⟩ := res6r HR4.out
              clear hb4 ho4 hO' e1 e2 e3 x0 x1 x2 HB3 HO3 HR3 HN3 HZ3 hnr3 hna3
              go_wp2_with fail
              refine (hnx W4).mono ?_
              rintro e W5 ⟨rfl, hb5⟩
              have HB5 := Lib.hid (HB4.out.trans (hb5.mono HB4.out.size))
              have HO5 := Lib.hid (own_belowR HO4.out hb5 (Nat.le_refl _))
              have HN5 := Lib.hid ((hb5.block _ (lt_of_block HN4.out)).trans HN4.out)
              have HZ5 := Lib.hid ((hb5.block _ (lt_of_block HZ4.out)).trans HZ4.out)
              have HAP5 := Lib.hid (own_apart HO5.out HN5.out (by decide))
              clear hb5 hnx n0 n1 n2 n3 n4 n5 HB4 HO4 HR4 HN4 HZ4 HAPN HAPZ HAPR
              have HND : Hid (O'.length ≤ (outR S j).length + (k + 1)) := Lib.hid (by rw [HOE.out, List.length_append]; have := HOL.out; split <;> simp <;> omega)
              have HOK5 : Hid (∀ y ∈ O', okR y) := Lib.hid (fun y hy => by
                rw [HOE.out] at hy
                rcases List.mem_append.1 hy with h | h
                · exact HOK.out y h
                · split at h
                  · rename_i hlt2
                    simp at h
                    rw [h]
                    obtain ⟨q1, q2⟩ := HBF.out (HPOS.out hlt2)
                    refine ⟨HX.out, q2, HX6.out.symm, ?_⟩
                    show keyA x ≤ keyA ⟨r.six, bfH r.hi r.lo, bfL r.lo⟩
                    have q3 : keyA ⟨r.six, bfH r.hi r.lo, bfL r.lo⟩ + 1 = keyA (fiR r) := q1
                    omega
                  · cases h)
              have HOM5 : Hid (O'.map rgS ++ restG (famE r.six) (rgS r).2 (decide ((rgS r).2 < famE r.six)) (famS r.six (S.drop (k + 1))) = outR S j ++ famR r.six S) := Lib.hid (by
                rw [← HOM.out, HOE.out, HDR.out, famS_take HRF.out.2, List.map_append, List.append_assoc]
                congr 1
                rw [restG]
                congr 1
                have e1 : topR true x = keyA x := rfl
                have e2 : (rgS r).1 = keyA (fiR r) := rfl
                rw [e1, e2]
                by_cases hlt2 : keyA x < keyA (fiR r)
                · rw [if_pos hlt2, if_pos hlt2]
                  obtain ⟨q1, q2⟩ := HBF.out (HPOS.out hlt2)
                  have q3 : keyA ⟨r.six, bfH r.hi r.lo, bfL r.lo⟩ + 1 = keyA (fiR r) := q1
                  show [(keyA x, keyA ⟨r.six, bfH r.hi r.lo, bfL r.lo⟩ + 1)] = _
                  rw [q3]
                · rw [if_neg hlt2, if_neg hlt2]
                  rfl)
              have HFE : Hid ((laR r).six = r.six) := Lib.hid HRO.out.six
              have hrl := (keyA_lt HRO.out.l).2
              rw [HFE.out] at hrl
              have HRL := Lib.hid hrl
              have HND2 : Hid (keyA (laR r) + 1 = famE r.six → famS r.six (S.drop (k + 1)) = []) := Lib.hid (fun he => by
                have hsb : (S.drop k).Sublist S := List.drop_sublist k S
                refine famS_end (y := rgS r) (l := S.drop (k + 1)) ?_ ?_ HRF.out.2 he
                · rw [← HDR.out]; exact HL.out.norm.sub hsb
                · rw [← HDR.out]; exact fun z hz => HL.out.fam z (hsb.subset hz))
              obtain ⟨eb, heb⟩ : ∃ eb, endA r.six2 r.hi2 r.lo2 = eb := ⟨_, rfl⟩
              have HEB : Hid (eb = decide (keyA (laR r) + 1 = famE r.six)) := Lib.hid (by rw [← heb, ← HFE.out]; exact HEK.out)
              have HNKE : Hid (eb = false → keyA ⟨r.six2, nxH r.hi2 r.lo2, nxL r.lo2⟩ = keyA (laR r) + 1 ∧ fineA ⟨r.six2, nxH r.hi2 r.lo2, nxL r.lo2⟩) := Lib.hid (fun he => HNK.out (heb.trans he))
              have HN0 : Hid (w.heap.size ≤ na) := Lib.hid (Nat.le_of_lt HNA.out)
              rw [heb]
              generalize nxH r.hi2 r.lo2 = gh at *
              generalize nxL r.lo2 = gl at *
              clear hrl heb HEK HNK hcb
              obtain ⟨x0, x1, x2, f0, f1, f2⟩ := res3 HN5.out
              cases eb
              · have hne : ¬ keyA (laR r) + 1 = famE r.six := of_decide_eq_false HEB.out.symm
                obtain ⟨q1, q2⟩ := HNKE.out rfl
                have HQ := Lib.hid (And.intro q1 q2)
                have HNE : Hid ((rgS r).2 < famE r.six) := Lib.hid (by have := HRL.out; show keyA (laR r) + 1 < famE r.six; omega)
                clear hne q1 q2
                simp only [Bool.false_eq_true, if_false, Bool.not_false]
                go_wp2_with fail
                generalize hW : World.setCell _ _ _ = W9
                have hr := re3 HN5.out hW
                have HR := Lib.hid hr
                clear hr hW x0 x1 x2 f0 f1 f2
                have HRE : Hid (ReI w S r.six (outR S j) na (k + 1) u3 (.bool true) W9) := Lib.hid ⟨HR.out.below HB5.out HN0.out, O', ⟨r.six2, gh, gl⟩, true, rfl, rw_same HO5.out (fun b hb => HR.out.oth _ (HAP5.out b hb)), HND.out, HOK5.out, HQ.out.2, HFE.out, HR.out.blk, (fun h => by cases h), by
                  have e1 : topR true ⟨r.six2, gh, gl⟩ = (rgS r).2 := HQ.out.1
                  rw [e1]
                  have h9 := HOM5.out
                  rw [decide_eq_true HNE.out] at h9
                  exact h9⟩
                have HZ9 := Lib.hid ((HR.out.oth _ (by have := HNA.out; omega)).trans HZ5.out)
                go_roundw
                case rel => exact ⟨k + 1, _, by omega, by simp, rfl, HRE.out, HZ9.out⟩
                case measure => simp [intOf]; omega
              · have hne : keyA (laR r) + 1 = famE r.six := of_decide_eq_true HEB.out.symm
                have HNE := Lib.hid hne
                clear hne
                simp only [if_true, Bool.not_true]
                go_wp2_with fail
                generalize hW : World.setCell _ _ _ = W9
                have hr := re3 HN5.out hW
                have HR := Lib.hid hr
                clear hr hW x0 x1 x2 f0 f1 f2
                have HRE : Hid (ReI w S r.six (outR S j) na (k + 1) u3 (.bool false) W9) := Lib.hid ⟨HR.out.below HB5.out HN0.out, O', laR r, false, rfl, rw_same HO5.out (fun b hb => HR.out.oth _ (HAP5.out b hb)), HND.out, HOK5.out, HRO.out.l, HFE.out, HR.out.blk, (fun _ => HND2.out HNE.out), by
                  have e1 : topR false (laR r) = (rgS r).2 := by
                    show famE (laR r).six = keyA (laR r) + 1
                    rw [HFE.out, HNE.out]
                  rw [e1]
                  have h9 := HOM5.out
                  rw [decide_eq_false (by show ¬ keyA (laR r) + 1 < famE r.six; rw [HNE.out]; omega)] at h9
                  exact h9⟩
                have HZ9 := Lib.hid ((HR.out.oth _ (by have := HNA.out; omega)).trans HZ5.out)
                go_roundw
                case rel => exact ⟨k + 1, _, by omega, by simp, rfl, HRE.out, HZ9.out⟩
                case measure => simp [intOf]; omega
          · have hqn : q = !r.six := by revert hs; cases r.six <;> cases q <;> simp
            subst hqn
            have HR : Hid (ReI w S (!r.six) (outR S j) na (k + 1) sv2 (.bool left) W2) := Lib.hid ⟨HBX.out, O, x, left, rfl, HOX.out, by have := HOL.out; omega, HOK.out, HX.out, HX6.out, HNB.out, by
              have e : famS (!r.six) (S.drop k) = famS (!r.six) (S.drop (k + 1)) := by rw [HDR.out]; exact famS_skip (by rw [HRF.out.2]; exact hs)
              rw [← e]
              exact ⟨HLE.out, HOM.out⟩⟩
            clear hs
            go_wp2_with fail
            go_roundw
            case rel => exact ⟨k + 1, _, by omega, by simp, rfl, HR.out, HZB.out⟩
            case measure => simp [intOf]; omega
        · have hke : k = L.length := by omega
          subst hke
          have hdn : S.drop L.length = [] := List.drop_eq_nil_of_le (by rw [HSL.out]; exact Nat.le_refl _)
          have hom := HOM.out
          rw [hdn] at hom
          have HOM2 : Hid (O.map rgS ++ restG (famE q) (topR left x) left [] = outR S (j + 1)) := Lib.hid (by rw [HST.out]; exact hom)
          clear hdn hom HOM HLE
          cases left
          · have HF : Hid (O.map rgS = outR S (j + 1)) := Lib.hid (by
              have := HOM2.out
              simpa [restG] using this)
            go_wp2_with fail
            go_roundw
            case rel => exact ⟨j + 1, O, _, by omega, by simp, rfl, HO.out, HOK.out, HF.out, HBW.out, HZZ.out⟩
            case measure => simp [intOf]; omega
          · have hfl := fun W => filled_any x.six x.hi x.lo 0 W HX.out.1 HX.out.2.1 (lenA x.six).toNat (by unfold lenA; split <;> rfl) (by unfold lenA; split <;> decide)
            have HLF := Lib.hid (last_fam HX.out)
            generalize fil x.hi ((lenA x.six).toNat - 64) = fh at *
            generalize fil x.lo (min 64 (lenA x.six).toNat) = fl at *
            obtain ⟨x0, x1, x2, -⟩ := res3 HNX.out
            have HAPZ := Lib.hid (own_apart HO.out HZZ.out (by decide))
            have HOLB : Hid (O.length + 1 ≤ 100000) := Lib.hid (by have h2 := HOL.out; have h3 := outR_len S j; have h4 := HSL.out; omega)
            have HFK : Hid ((∀ y ∈ O ++ [(⟨x.six, x.hi, x.lo, x.six, fh, fl⟩ : Rg)], okR y) ∧ (O ++ [(⟨x.six, x.hi, x.lo, x.six, fh, fl⟩ : Rg)]).map rgS = outR S (j + 1)) := Lib.hid (by
              obtain ⟨q1, q2⟩ := HLF.out
              refine ⟨fun y hy => ?_, ?_⟩
              · rcases List.mem_append.1 hy with h | h
                · exact HOK.out y h
                · simp at h
                  rw [h]
                  have := (keyA_lt HX.out).2
                  exact ⟨HX.out, q1, rfl, by show keyA x ≤ keyA ⟨x.six, fh, fl⟩; omega⟩
              · have h9 := HOM2.out
                rw [← h9, List.map_append]
                congr 1
                show [(keyA x, keyA ⟨x.six, fh, fl⟩ + 1)] = restG (famE q) (keyA x) true []
                rw [q2, HX6.out]
                rfl)
            go_upto_region 15 with (fail)
            -- R15
            refine wp_region_app 6 (fun f' => ⟨#[.slice A L.length ca, undef, .slice none 0 0, sv2, undef, .bool q, .pointer (some ⟨na, 0, none⟩), .bool true, undef, u9, .slice (some ⟨w.heap.size, 0, none⟩) 2 2, .int .i64 2, .int .i64 j, .bool true, .pointer (some ⟨w.heap.size, j, none⟩), .bool q, .bool q, .agg #[Value.bool q, Value.int IntKind.u64 0, Value.int IntKind.u64 0], .slice A L.length ca, .int .i64 L.length, .int .i64 L.length, .bool false, u22, u23, u24, u25, u26, u27, u28, u29, u30, u31, u32, u33, u34, u35, u36, u37, u38, u39, u40, u41, u42, u43, u44, u45, u46, u47, u48, .bool true, f' 0, f' 1, f' 2, f' 3, f' 4, f' 5, u56, u57, undef], []⟩) [VE (sv2), VE (.agg #[.bool x.six, .int .u64 x.hi, .int .u64 x.lo]), VE (.agg #[.bool x.six, .int .u64 x.hi, .int .u64 x.lo]), VE (.agg #[.bool x.six, .int .u64 fh, .int .u64 fl]), VE (.agg #[.bool x.six, .int .u64 x.hi, .int .u64 x.lo, .bool x.six, .int .u64 fh, .int .u64 fl]), VX #[.bool x.six, .int .u64 x.hi, .int .u64 x.lo, .bool x.six, .int .u64 fh, .int .u64 fl] 43 1] wr (fun i9 => match i9 with | 0 => u50 | 1 => u51 | 2 => u52 | 3 => u53 | 4 => u54 | 5 => u55 | _ => undef) (fun a' w' => ∃ (v9 : Value) (f' : Nat → Value), a' = ⟨#[.slice A L.length ca, undef, .slice none 0 0, sv2, undef, .bool q, .pointer (some ⟨na, 0, none⟩), .bool true, undef, u9, .slice (some ⟨w.heap.size, 0, none⟩) 2 2, .int .i64 2, .int .i64 j, .bool true, .pointer (some ⟨w.heap.size, j, none⟩), .bool q, .bool q, .agg #[Value.bool q, Value.int IntKind.u64 0, Value.int IntKind.u64 0], .slice A L.length ca, .int .i64 L.length, .int .i64 L.length, .bool false, u22, u23, u24, u25, u26, u27, u28, u29, u30, u31, u32, u33, u34, u35, u36, u37, u38, u39, u40, u41, u42, u43, u44, u45, u46, u47, u48, .bool true, f' 0, f' 1, f' 2, f' 3, f' 4, f' 5, v9, u57, undef], []⟩ ∧ rgOwn w' w.heap.size v9 (O ++ [(⟨x.six, x.hi, x.lo, x.six, fh, fl⟩ : Rg)]) ∧ Below w.heap.size w w' ∧ w'.heap[w.heap.size]? = wr.heap[w.heap.size]?) (show Tryz.prog.follows .mixedOrders = true from by kernel_rfl) (by kernel_rfl) ?_ ?_ ?_ ?_ rfl
            · intro p hp
              simp only [List.mem_cons, List.mem_nil_iff, or_false] at hp
              rcases hp with rfl | rfl | rfl | rfl | rfl | rfl <;> first | exact VE.kept _ | exact VX.kept _ _ _
            · intro i9 op hi9 ho f' w' hS hd
              have hcase : i9 = 0 ∨ i9 = 1 ∨ i9 = 2 ∨ i9 = 3 ∨ i9 = 4 ∨ i9 = 5 := by omega
              rcases hcase with rfl | rfl | rfl | rfl | rfl | rfl <;> (replace ho := Option.some.inj ho; subst ho)
              · refine ⟨rfl, ?_⟩
                unfold Oper.wp
                go_simp
                exact ⟨_, (by first | (simp [upd]; done) | (simp [upd]; omega)), rfl, Below.refl _ _⟩
              · refine ⟨rfl, ?_⟩
                have x0' : w'.cell? ⟨na, 0, none⟩ = some (.bool x.six) := (hS.out.cell (p := ⟨na, _, none⟩) hnaw).trans x0
                have x1' : w'.cell? ⟨na, 1, none⟩ = some (.int .u64 x.hi) := (hS.out.cell (p := ⟨na, _, none⟩) hnaw).trans x1
                have x2' : w'.cell? ⟨na, 2, none⟩ = some (.int .u64 x.lo) := (hS.out.cell (p := ⟨na, _, none⟩) hnaw).trans x2
                unfold Oper.wp
                go_simp
                exact ⟨_, (by first | (simp [upd]; done) | (simp [upd]; omega)), rfl, Below.refl _ _⟩
              · refine ⟨rfl, ?_⟩
                have x0' : w'.cell? ⟨na, 0, none⟩ = some (.bool x.six) := (hS.out.cell (p := ⟨na, _, none⟩) hnaw).trans x0
                have x1' : w'.cell? ⟨na, 1, none⟩ = some (.int .u64 x.hi) := (hS.out.cell (p := ⟨na, _, none⟩) hnaw).trans x1
                have x2' : w'.cell? ⟨na, 2, none⟩ = some (.int .u64 x.lo) := (hS.out.cell (p := ⟨na, _, none⟩) hnaw).trans x2
                unfold Oper.wp
                go_simp
                exact ⟨_, (by first | (simp [upd]; done) | (simp [upd]; omega)), rfl, Below.refl _ _⟩
              · have e2 : f' 2 = _ := hd ⟨2, .data⟩ (by simp) rfl
                refine ⟨rfl, ?_⟩
                unfold Oper.wp
                go_simp
                refine (hfl w').mono ?_
                rintro e w9 ⟨rfl, hb9⟩
                exact ⟨_, (by simp [upd, e2]), rfl, hb9⟩
              · have e1 : f' 1 = _ := hd ⟨1, .data⟩ (by simp) rfl
                have e3 : f' 3 = _ := hd ⟨3, .data⟩ (by simp) rfl
                refine ⟨rfl, ?_⟩
                unfold Oper.wp
                go_simp
                exact ⟨_, (by first | (simp [upd, e1, e3]; done) | (simp [upd, e1, e3]; omega)), rfl, Below.refl _ _⟩
              · have e4 : f' 4 = _ := hd ⟨4, .data⟩ (by simp) rfl
                refine ⟨rfl, ?_⟩
                unfold Oper.wp
                go_simp
                exact ⟨_, (by simp [upd, e4]), ⟨_, rfl, heap_alloc_new _ _⟩, (Below.refl _ _).alloc (Nat.le_refl _) _⟩
            · intro op ho f' w' hS hd
              have e0 : f' 0 = _ := hd 0 (by omega)
              obtain ⟨g9, e9, hg9⟩ := hd 5 (by omega)
              replace ho := Option.some.inj ho
              subst ho
              refine ⟨rfl, ?_⟩
              have hoW := own_belowR HO.out hS.out (Nat.le_refl _)
              have hbW := HBW.out.trans (hS.out.mono HBW.out.size)
              refine wp_append_own w' (.tmp 50) (.tmp 55) 75 rfl w.heap.size 43 i0 (.agg #[.bool false, .int .u64 0, .int .u64 0, .bool false, .int .u64 0, .int .u64 0]) 6 48 Tryz.underlying75 hi0 hz0 hz1 hz2 rfl (by decide) _ _ _ e0 hoW ⟨g9, 0, none⟩ 1 1 [.bool x.six, .int .u64 x.hi, .int .u64 x.lo, .bool x.six, .int .u64 fh, .int .u64 fl] e9 rfl (cells_blk hg9) (by simp [Value.oneCell']) (by have := HOLB.out; unfold maxLen; omega) (by have := HOLB.out; omega) hbW.size ?_
              intro v9 w9 ho9 hg9 _
              exact ⟨v9, f', rfl, own_asT ho9 (by simp) (by simp [rwC, rgC]), hbW.grown hg9 hbW.size (fun j hj => (hoW.lt j hj).1), (hg9.block w.heap.size (Nat.lt_of_lt_of_le hbz hS.out.size) (fun h => HAPZ.out _ h.symm rfl)).trans (hS.out.block _ hbz)⟩
            · intro op ho a w' hR
              obtain ⟨v9, f', rfl, hF⟩ := hR
              have HF9 := Lib.hid hF
              clear hF
              replace ho := Option.some.inj ho
              subst ho
              refine ⟨rfl, ?_⟩
              unfold Oper.wp
              go_simp
              go_wp2_with fail
              go_roundw
              case rel => exact ⟨j + 1, _, _, by omega, by simp, rfl, HF9.out.1, HFK.out.1, HFK.out.2, HF9.out.2.1, HF9.out.2.2.trans HZZ.out⟩
              case measure => simp [intOf]; omega
            -- END R15
    · have : j = 2 := by omega
      subst this
      have HO := Lib.hid ho
      have HB := Lib.hid hb
      have HF : Hid (RgsIs O (restS S)) := Lib.hid ⟨hok, hom, (restS_law HL.out.norm HL.out.fam).1⟩
      clear ho hok hom hb hz HB0 HZ0
      go_wp2_with fail
      go_ret
      exact ⟨_, O, rfl, HO.out, HF.out, HB.out⟩
end Go.Proofs.YtajifionclpphaaGreatDoor
