/- slices.CompactFunc over rows of En, exact (printed by gen_comp.py). -/
import Derived.Test.YtpbcbgoenoolfaaGreatDoorEnR
import Derived.Test.YtpbcbgoenoolfaaGreatDoorRwD
import Derived.Test.YtpbcbgoenoolfaaGreatDoorRgE
import Derived.Test.YtpbcbgoenoolfaaGreatDoorRgX
namespace Go.Proofs.YtpbcbgoenoolfaaGreatDoor
open Go.RowKit Go.Hw
def enA (e : En) : Array Value := #[.bool e.six, .int .u64 e.hi, .int .u64 e.lo, .int .i64 e.bits, .string e.tgt]
/-- What is asked of a closure that tells whether two of them are alike. -/
def enEqP (g : Nat) (lb : Array Value) (c : En → En → Bool) (L : List En) (w : World) : Prop :=
  ∀ (W : World) (x y : En), x ∈ L → y ∈ L → Below w.heap.size w W → Calls Tryz.prog g (#[.agg (enA x), .agg (enA y)] ++ lb) W fun en w' => en = .returned (.bool (c x y)) ∧ Below W.heap.size W w'
set_option maxRecDepth 100000 in
set_option maxHeartbeats 4000000 in
theorem en_compact (gb cap : Nat) (L : List En) (g : Nat) (lb : Array Value) (c : En → En → Bool) (w : World) (eg : ∀ args w, (callFunc g args).run Tryz.prog w = .ok (.enter g args) w)
    (h : enOwn w 0 (.slice (some ⟨gb, 0, none⟩) L.length cap) L) (hl : L.length ≤ 1000000) (hp : ∀ wr, w.grownBy wr (some gb) → enEqP g lb c L wr) :
    Calls Tryz.prog 17 #[.slice (some ⟨gb, 0, none⟩) L.length cap, .func (.func g) #[] lb] w
      fun e w' => ∃ L', L' = dedT c noEn L L.length ∧ e = .returned (.slice (some ⟨gb, 0, none⟩) L'.length cap) ∧ enSo w gb cap L' w' := by
  have H0 : Hid (enSo w gb cap L w) := Lib.hid ⟨World.grownBy.refl _ _, h⟩
  have HP := Lib.hid hp
  clear h hp
  by_cases h2 : L.length < 2
  · have d2 : decide ((L.length : Int) < 2) = true := by simp; omega
    go_enter Tryz.func17, Tryz.ntmps17
    go_wp2_with fail
    go_ret
    exact ⟨L, by rw [dedT_all _ (Nat.le_refl _) (fun j hj => by omega), List.take_length], rfl, H0.out⟩
  · have d2 : decide ((L.length : Int) < 2) = false := by simp; omega
    go_enter Tryz.func17, Tryz.ntmps17
    go_wp2_with fail
    go_loopw [5] (fun v5 wr => ∃ a : Nat, a + 1 ≤ L.length ∧ v5 = .int .i64 ((a : Int) + 1) ∧ (∀ t, t < a → c (L.getD (t + 1) noEn) (L.getD t noEn) = false) ∧ enSo w gb cap L wr) (fun v5 _ => L.length - (intOf v5).toNat)
    case atStart => exact ⟨0, by omega, rfl, fun t ht => by omega, H0.out⟩
    case round =>
      obtain ⟨a, hk, rfl, hpre, hso⟩ := hrel
      have HPRE := Lib.hid hpre
      clear hpre
      by_cases hlt : a + 1 < L.length
      · have hdc : decide ((a : Int) + 1 < (L.length : Int)) = true := by simp; omega
        have hlt' : (a : Int) + 1 < (L.length : Int) := by omega
        have hlt2 : (a : Int) < (L.length : Int) := by omega
        have HSO := Lib.hid hso
        clear hso
        go_upto_region 6 with (fail)
        have hxm : L.getD (a + 1) noEn ∈ L := rw_mem hlt
        have hym : L.getD a noEn ∈ L := rw_mem (by omega)
        obtain ⟨x, hx⟩ : ∃ x, L.getD (a + 1) noEn = x := ⟨_, rfl⟩
        obtain ⟨y, hy⟩ : ∃ y, L.getD a noEn = y := ⟨_, rfl⟩
        have HCX := Lib.hid (HSO.out.cells hlt hx)
        have HCY := Lib.hid (HSO.out.cells (i := a) (by omega) hy)
        rw [hx] at hxm
        rw [hy] at hym
        have HC := Lib.hid (fun W hb => HP.out wr HSO.out.1 W x y hxm hym hb)
        have hgl : gb < wr.heap.size := rw_lt HSO.out.2 rfl
        have wa : IntKind.i64.wrap (a : Int) = (a : Int) := IntWalk.i64_in _ (by omega)
        have wa2 : IntKind.i64.wrap ((a : Int) + 1 - 1) = (a : Int) := by rw [show (a : Int) + 1 - 1 = a by omega]; exact wa
        have tn : ((a : Int) + 1).toNat = a + 1 := by omega
        have s4 : 0 ≤ (a : Int) + 1 := by omega
        have hlt4 : (a : Int) + 1 < (L.length : Int) := hlt'
        obtain ⟨cv, hcv⟩ : ∃ cv : Bool, c x y = cv := ⟨_, rfl⟩
        have HCV := Lib.hid hcv
        have HXY : Hid (c (L.getD (a + 1) noEn) (L.getD a noEn) = cv) := Lib.hid (by rw [hx, hy]; exact hcv)
        clear hx hy hxm hym hcv
        go_cut [28] from 18 to 28 (fun v28 wx => v28 = .bool cv ∧ Below wr.heap.size wr wx)
        case first J K2 hJ hK =>
          refine wp_region_exact 10 (fun f' => ⟨#[.slice (some ⟨gb, 0, none⟩) L.length cap, .func (Fn.func g) #[] lb, undef, undef, u4, .int .i64 (↑a + 1), u6, u7, .slice (some ⟨gb, 0, none⟩) L.length cap, .int .i64 L.length, .bool false, undef, .int .i64 (↑a + 1), .slice (some ⟨gb, 0, none⟩) L.length cap, .int .i64 L.length, .bool true, u16, u17, f' 0, f' 1, f' 2, f' 3, f' 4, f' 5, f' 6, f' 7, f' 8, f' 9, u28, u29, u30, u31, u32, u33, u34, u35, u36, u37, u38, u39, u40, u41, u42, u43, u44, u45, u46, u47, u48, u49, u50, u51, u52, u53, u54, u55, u56, u57, u58, u59, u60, u61, u62, u63, u64, undef], []⟩) (fun i => match i with | 0 => .func (Fn.func g) #[] lb | 1 => .slice (some ⟨gb, 0, none⟩) L.length cap | 2 => .int .i64 ((a : Int) + 1) | 3 => .pointer (some ⟨gb, (a + 1) * 5, none⟩) | 4 => .agg (enA x) | 5 => .slice (some ⟨gb, 0, none⟩) L.length cap | 6 => .int .i64 ((a : Int) + 1) | 7 => .int .i64 (a : Int) | 8 => .pointer (some ⟨gb, a * 5, none⟩) | 9 => .agg (enA y) | _ => undef) (fun lb' w' => Hid (Below wr.heap.size wr w')) (fun i => match i with | 0 => u18 | 1 => u19 | 2 => u20 | 3 => u21 | 4 => u22 | 5 => u23 | 6 => u24 | 7 => u25 | 8 => u26 | 9 => u27 | _ => undef) 10 (show Tryz.prog.follows .mixedOrders = true from by kernel_rfl) (by kernel_rfl) ?_ ?_ (Lib.hid (Below.refl _ _).drew)
          · intro i op hi ho lb' f' w' hl hS hd
            have hcase : i = 0 ∨ i = 1 ∨ i = 2 ∨ i = 3 ∨ i = 4 ∨ i = 5 ∨ i = 6 ∨ i = 7 ∨ i = 8 ∨ i = 9 := by omega
            rcases hcase with rfl | rfl | rfl | rfl | rfl | rfl | rfl | rfl | rfl | rfl <;> (replace ho := Option.some.inj ho; subst ho)
            · refine OpStep.of rfl ?_
              unfold Oper.wp
              go_simp
              first | exact ⟨by first | (simp [upd]; done) | (simp [upd]; omega), hS⟩ | (simp [upd]; done) | (simp [upd]; omega)
            · refine OpStep.of rfl ?_
              unfold Oper.wp
              go_simp
              first | exact ⟨by first | (simp [upd]; done) | (simp [upd]; omega), hS⟩ | (simp [upd]; done) | (simp [upd]; omega)
            · refine OpStep.of rfl ?_
              unfold Oper.wp
              go_simp
              first | exact ⟨by first | (simp [upd]; done) | (simp [upd]; omega), hS⟩ | (simp [upd]; done) | (simp [upd]; omega)
            · have e1 : f' 1 = .slice (some ⟨gb, 0, none⟩) L.length cap := (hd ⟨1, .data⟩ (by simp) rfl).2
              have e2 : f' 2 = .int .i64 ((a : Int) + 1) := (hd ⟨2, .data⟩ (by simp) rfl).2
              refine OpStep.of rfl ?_
              unfold Oper.wp
              go_simp
              first | exact ⟨by first | (simp [upd, e1, e2]; done) | (simp [upd, e1, e2]; omega), hS⟩ | (simp [upd, e1, e2]; done) | (simp [upd, e1, e2]; omega)
            · have e3 : f' 3 = .pointer (some ⟨gb, (a + 1) * 5, none⟩) := (hd ⟨3, .data⟩ (by simp) rfl).2
              refine OpStep.of rfl ?_
              have e3 : f' 3 = .pointer (some ⟨gb, (a + 1) * 5, none⟩) := (hd ⟨3, .data⟩ (by simp) rfl).2
              refine load_stepR e3 (HCX.out.keep (fun p hp => World.cell?_of_block (hS.out.block p.block (by rw [hp]; exact hgl)))) (by kernel_rfl) rfl (by kernel_rfl) ?_
              exact ⟨rfl, hS⟩
            · refine OpStep.of rfl ?_
              unfold Oper.wp
              go_simp
              first | exact ⟨by first | (simp [upd]; done) | (simp [upd]; omega), hS⟩ | (simp [upd]; done) | (simp [upd]; omega)
            · refine OpStep.of rfl ?_
              unfold Oper.wp
              go_simp
              first | exact ⟨by first | (simp [upd]; done) | (simp [upd]; omega), hS⟩ | (simp [upd]; done) | (simp [upd]; omega)
            · have e6 : f' 6 = .int .i64 ((a : Int) + 1) := (hd ⟨6, .data⟩ (by simp) rfl).2
              refine OpStep.of rfl ?_
              unfold Oper.wp
              go_simp
              first | exact ⟨by first | (simp [upd, e6]; done) | (simp [upd, e6]; omega), hS⟩ | (simp [upd, e6]; done) | (simp [upd, e6]; omega)
            · have e5 : f' 5 = .slice (some ⟨gb, 0, none⟩) L.length cap := (hd ⟨5, .data⟩ (by simp) rfl).2
              have e7 : f' 7 = .int .i64 (a : Int) := (hd ⟨7, .data⟩ (by simp) rfl).2
              refine OpStep.of rfl ?_
              unfold Oper.wp
              go_simp
              first | exact ⟨by first | (simp [upd, e5, e7]; done) | (simp [upd, e5, e7]; omega), hS⟩ | (simp [upd, e5, e7]; done) | (simp [upd, e5, e7]; omega)
            · have e8 : f' 8 = .pointer (some ⟨gb, a * 5, none⟩) := (hd ⟨8, .data⟩ (by simp) rfl).2
              refine OpStep.of rfl ?_
              have e8 : f' 8 = .pointer (some ⟨gb, a * 5, none⟩) := (hd ⟨8, .data⟩ (by simp) rfl).2
              refine load_stepR e8 (HCY.out.keep (fun p hp => World.cell?_of_block (hS.out.block p.block (by rw [hp]; exact hgl)))) (by kernel_rfl) rfl (by kernel_rfl) ?_
              exact ⟨rfl, hS⟩
          · intro op ho lb' f' w' hd hS
            have e0 : f' 0 = .func (Fn.func g) #[] lb := (hd 0 (by omega)).2
            have e4 : f' 4 = .agg (enA x) := (hd 4 (by omega)).2
            have e9 : f' 9 = .agg (enA y) := (hd 9 (by omega)).2
            replace ho := Option.some.inj ho
            subst ho
            refine ⟨rfl, ?_⟩
            unfold Oper.wp
            go_simp
            go_at_fn g
            refine (HC.out w' hS.out).mono ?_
            rintro e w9 ⟨rfl, hb9⟩
            have HBB := Lib.hid (hS.out.trans (hb9.mono hS.out.size))
            exact hK _ _ (hJ _ _ ⟨_, _, _, _, _, _, _, _, _, _, _, ⟨by rw [HCV.out], HBB.out⟩, rfl⟩)
        case rest =>
        obtain ⟨rfl, hbc⟩ := hcut
        obtain ⟨W1, rfl⟩ : ∃ W1 : World, W1 = wc := ⟨_, rfl⟩
        have HS1 := Lib.hid (HSO.out.below hbc)
        clear hbc
        cases cv
        · have q1 : IntKind.i64.wrap ((a : Int) + 1 + 1) = (a : Int) + 1 + 1 := IntWalk.i64_in _ (by omega)
          go_wp2_with fail
          go_roundw
          case rel => exact ⟨a + 1, by omega, by go_num, fun t ht => (by
            by_cases e : t = a
            · rw [e]; exact HXY.out
            · exact HPRE.out t (by omega)), HS1.out⟩
          case measure => simp [intOf]; omega
        · have ncap : ¬ cap = a + 1 := by have := rw_cap HS1.out.2; omega
          have q0 : IntKind.i64.wrap ((a : Int) + 1) = (a : Int) + 1 := IntWalk.i64_in _ (by omega)
          go_upto_region 8 with (fail)
          go_wp2_with fail
          go_loopw [5, 7] (fun v5 v7 wq => ∃ (b j : Nat) (M : List En), M.length = L.length ∧ ((∀ z ∈ M, z ∈ L) ∧ M.take (a + 1 + b) = dedT c noEn L (a + 1 + (j + 1)) ∧ ∀ k, a + 1 + j ≤ k → M.getD k noEn = L.getD k noEn) ∧ b ≤ j ∧ a + 1 + (j + 1) ≤ L.length ∧ v5 = .int .i64 ((a : Int) + 1 + b) ∧ v7 = .int .i64 ((j : Int) + 1) ∧ enSo w gb cap M wq) (fun _ v7 _ => L.length - (intOf v7).toNat)
          case atStart =>
            refine ⟨0, 0, L, rfl, ⟨fun _ h => h, ?_, fun _ _ => rfl⟩, Nat.le_refl _, by omega, by go_num, by go_num, HS1.out⟩
            rw [show a + 1 + (0 + 1) = a + 2 from rfl, dedT, if_pos HXY.out, List.append_nil, dedT_all (a + 1) (by omega) (fun t ht => HPRE.out t (by omega))]
          case round =>
            obtain ⟨b, j, M, hML, hMm, hbj, hj, rfl, rfl, hso⟩ := hrel
            have HSO2 := Lib.hid hso
            have HML := Lib.hid hML
            have HMX := Lib.hid hMm.2
            have HMm := Lib.hid hMm.1
            clear hso hML hMm
            by_cases hlt9 : a + 1 + (j + 1) < L.length
            · have hd9 : decide ((j : Int) + 1 < ((L.length - (a + 1) : Nat) : Int)) = true := by simp; omega
              go_upto_region 11 with (fail)
              have hxm := HMm.out _ (rw_mem (L := M) (d := noEn) (i := a + 1 + (j + 1)) (by rw [HML.out]; omega))
              have hym := HMm.out _ (rw_mem (L := M) (d := noEn) (i := a + 1 + j) (by rw [HML.out]; omega))
              obtain ⟨x, hx⟩ : ∃ x, M.getD (a + 1 + (j + 1)) noEn = x := ⟨_, rfl⟩
              obtain ⟨y, hy⟩ : ∃ y, M.getD (a + 1 + j) noEn = y := ⟨_, rfl⟩
              have HCX2 : Hid (RwCells wr gb ((a + 1) * 5 + (j + 1) * 5) (enC x)) := Lib.hid (by
                have := HSO2.out.cells (i := a + 1 + (j + 1)) (by rw [HML.out]; omega) hx
                rwa [Nat.add_mul (a + 1) (j + 1)] at this)
              have HCY2 : Hid (RwCells wr gb ((a + 1) * 5 + j * 5) (enC y)) := Lib.hid (by
                have := HSO2.out.cells (i := a + 1 + j) (by rw [HML.out]; omega) hy
                rwa [Nat.add_mul (a + 1) j] at this)
              rw [hx] at hxm
              rw [hy] at hym
              have HXL := Lib.hid hxm
              have HC2 := Lib.hid (fun W hb => HP.out wr HSO2.out.1 W x y hxm hym hb)
              have hgl2 : gb < wr.heap.size := rw_lt HSO2.out.2 rfl
              have wj : IntKind.i64.wrap (j : Int) = (j : Int) := IntWalk.i64_in _ (by omega)
              have wj2 : IntKind.i64.wrap ((j : Int) + 1 - 1) = (j : Int) := by rw [show (j : Int) + 1 - 1 = j by omega]; exact wj
              have tj : ((j : Int) + 1).toNat = j + 1 := by omega
              have sj : 0 ≤ (j : Int) + 1 := by omega
              have lj : (j : Int) + 1 < ((L.length - (a + 1) : Nat) : Int) := by omega
              have lj2 : (j : Int) < ((L.length - (a + 1) : Nat) : Int) := by omega
              obtain ⟨cv, hcv⟩ : ∃ cv : Bool, (!c x y) = cv := ⟨_, rfl⟩
              have HCV2 := Lib.hid hcv
              have HXY2 : Hid ((!c (L.getD (a + 1 + j + 1) noEn) (L.getD (a + 1 + j) noEn)) = cv ∧ x = L.getD (a + 1 + j + 1) noEn) := Lib.hid (by
                have e1 := HMX.out.2 (a + 1 + (j + 1)) (by omega)
                have e2 := HMX.out.2 (a + 1 + j) (Nat.le_refl _)
                rw [hx] at e1
                rw [hy] at e2
                rw [show a + 1 + j + 1 = a + 1 + (j + 1) by omega, ← e1, ← e2]
                exact ⟨hcv, rfl⟩)
              clear hx hy hxm hym hcv
              go_cut [49] from 38 to 49 (fun v49 wx => v49 = .bool cv ∧ Below wr.heap.size wr wx)
              case first J3 K3 hJ3 hK3 =>
                refine wp_region_exact 11 (fun f' => ⟨#[.slice (some ⟨gb, 0, none⟩) L.length cap, .func (Fn.func g) #[] lb, undef, undef, u4, .int .i64 (↑a + 1 + ↑b), .slice (some { block := gb, off := (a + 1) * 5 }) (L.length - (a + 1)) (cap - (a + 1)), .int .i64 (↑j + 1), .slice (some ⟨gb, 0, none⟩) L.length cap, .int .i64 L.length, .bool false, undef, .int .i64 (↑a + 1), .slice (some ⟨gb, 0, none⟩) L.length cap, .int .i64 L.length, .bool true, u16, u17, u18, u19, u20, u21, u22, u23, u24, u25, u26, u27, .bool true, .slice (some ⟨gb, 0, none⟩) L.length cap, .int .i64 (↑a + 1), .slice (some { block := gb, off := (a + 1) * 5 }) (L.length - (a + 1)) (cap - (a + 1)), .int .i64 (↑j + 1), .slice (some { block := gb, off := (a + 1) * 5 }) (L.length - (a + 1)) (cap - (a + 1)), .int .i64 (↑(L.length - (a + 1))), .bool true, u36, u37, f' 0, f' 1, f' 2, f' 3, f' 4, f' 5, f' 6, f' 7, f' 8, f' 9, f' 10, u49, u50, u51, u52, u53, u54, u55, u56, u57, u58, u59, u60, u61, u62, u63, u64, undef], []⟩) (fun i => match i with | 0 => .func (Fn.func g) #[] lb | 1 => .slice (some ⟨gb, (a + 1) * 5, none⟩) (L.length - (a + 1)) (cap - (a + 1)) | 2 => .int .i64 ((j : Int) + 1) | 3 => .pointer (some ⟨gb, (a + 1) * 5 + (j + 1) * 5, none⟩) | 4 => .agg (enA x) | 5 => .slice (some ⟨gb, (a + 1) * 5, none⟩) (L.length - (a + 1)) (cap - (a + 1)) | 6 => .int .i64 ((j : Int) + 1) | 7 => .int .i64 (j : Int) | 8 => .pointer (some ⟨gb, (a + 1) * 5 + j * 5, none⟩) | 9 => .agg (enA y) | 10 => .bool (c x y) | _ => undef) (fun lb' w' => Hid (Below wr.heap.size wr w')) (fun i => match i with | 0 => u38 | 1 => u39 | 2 => u40 | 3 => u41 | 4 => u42 | 5 => u43 | 6 => u44 | 7 => u45 | 8 => u46 | 9 => u47 | 10 => u48 | _ => undef) 10 (show Tryz.prog.follows .mixedOrders = true from by kernel_rfl) (by kernel_rfl) ?_ ?_ (Lib.hid (Below.refl _ _).drew)
                · intro i op hi ho lb' f' w' hl hS hd
                  have hcase : i = 0 ∨ i = 1 ∨ i = 2 ∨ i = 3 ∨ i = 4 ∨ i = 5 ∨ i = 6 ∨ i = 7 ∨ i = 8 ∨ i = 9 ∨ i = 10 := by omega
                  rcases hcase with rfl | rfl | rfl | rfl | rfl | rfl | rfl | rfl | rfl | rfl | rfl <;> (replace ho := Option.some.inj ho; subst ho)
                  · refine OpStep.of rfl ?_
                    unfold Oper.wp
                    go_simp
                    first | exact ⟨by first | (simp [upd]; done) | (simp [upd]; omega), hS⟩ | (simp [upd]; done) | (simp [upd]; omega)
                  · refine OpStep.of rfl ?_
                    unfold Oper.wp
                    go_simp
                    first | exact ⟨by first | (simp [upd]; done) | (simp [upd]; omega), hS⟩ | (simp [upd]; done) | (simp [upd]; omega)
                  · refine OpStep.of rfl ?_
                    unfold Oper.wp
                    go_simp
                    first | exact ⟨by first | (simp [upd]; done) | (simp [upd]; omega), hS⟩ | (simp [upd]; done) | (simp [upd]; omega)
                  · have e1 : f' 1 = .slice (some ⟨gb, (a + 1) * 5, none⟩) (L.length - (a + 1)) (cap - (a + 1)) := (hd ⟨1, .data⟩ (by simp) rfl).2
                    have e2 : f' 2 = .int .i64 ((j : Int) + 1) := (hd ⟨2, .data⟩ (by simp) rfl).2
                    refine OpStep.of rfl ?_
                    unfold Oper.wp
                    go_simp
                    first | exact ⟨by first | (simp [upd, e1, e2]; done) | (simp [upd, e1, e2]; omega), hS⟩ | (simp [upd, e1, e2]; done) | (simp [upd, e1, e2]; omega)
                  · have e3 : f' 3 = .pointer (some ⟨gb, (a + 1) * 5 + (j + 1) * 5, none⟩) := (hd ⟨3, .data⟩ (by simp) rfl).2
                    refine OpStep.of rfl ?_
                    have e3 : f' 3 = .pointer (some ⟨gb, (a + 1) * 5 + (j + 1) * 5, none⟩) := (hd ⟨3, .data⟩ (by simp) rfl).2
                    refine load_stepR e3 (HCX2.out.keep (fun p hp => World.cell?_of_block (hS.out.block p.block (by rw [hp]; exact hgl2)))) (by kernel_rfl) rfl (by kernel_rfl) ?_
                    exact ⟨rfl, hS⟩
                  · refine OpStep.of rfl ?_
                    unfold Oper.wp
                    go_simp
                    first | exact ⟨by first | (simp [upd]; done) | (simp [upd]; omega), hS⟩ | (simp [upd]; done) | (simp [upd]; omega)
                  · refine OpStep.of rfl ?_
                    unfold Oper.wp
                    go_simp
                    first | exact ⟨by first | (simp [upd]; done) | (simp [upd]; omega), hS⟩ | (simp [upd]; done) | (simp [upd]; omega)
                  · have e6 : f' 6 = .int .i64 ((j : Int) + 1) := (hd ⟨6, .data⟩ (by simp) rfl).2
                    refine OpStep.of rfl ?_
                    unfold Oper.wp
                    go_simp
                    first | exact ⟨by first | (simp [upd, e6]; done) | (simp [upd, e6]; omega), hS⟩ | (simp [upd, e6]; done) | (simp [upd, e6]; omega)
                  · have e5 : f' 5 = .slice (some ⟨gb, (a + 1) * 5, none⟩) (L.length - (a + 1)) (cap - (a + 1)) := (hd ⟨5, .data⟩ (by simp) rfl).2
                    have e7 : f' 7 = .int .i64 (j : Int) := (hd ⟨7, .data⟩ (by simp) rfl).2
                    refine OpStep.of rfl ?_
                    unfold Oper.wp
                    go_simp
                    first | exact ⟨by first | (simp [upd, e5, e7]; done) | (simp [upd, e5, e7]; omega), hS⟩ | (simp [upd, e5, e7]; done) | (simp [upd, e5, e7]; omega)
                  · have e8 : f' 8 = .pointer (some ⟨gb, (a + 1) * 5 + j * 5, none⟩) := (hd ⟨8, .data⟩ (by simp) rfl).2
                    refine OpStep.of rfl ?_
                    have e8 : f' 8 = .pointer (some ⟨gb, (a + 1) * 5 + j * 5, none⟩) := (hd ⟨8, .data⟩ (by simp) rfl).2
                    refine load_stepR e8 (HCY2.out.keep (fun p hp => World.cell?_of_block (hS.out.block p.block (by rw [hp]; exact hgl2)))) (by kernel_rfl) rfl (by kernel_rfl) ?_
                    exact ⟨rfl, hS⟩
                  · have e0 : f' 0 = .func (Fn.func g) #[] lb := (hd ⟨0, .data⟩ (by simp) rfl).2
                    have e4 : f' 4 = .agg (enA x) := (hd ⟨4, .data⟩ (by simp) rfl).2
                    have e9 : f' 9 = .agg (enA y) := (hd ⟨9, .data⟩ (by simp) rfl).2
                    refine OpStep.of rfl ?_
                    have e0 : f' 0 = .func (Fn.func g) #[] lb := (hd ⟨0, .data⟩ (by simp) rfl).2
                    have e4 : f' 4 = .agg (enA x) := (hd ⟨4, .data⟩ (by simp) rfl).2
                    have e9 : f' 9 = .agg (enA y) := (hd ⟨9, .data⟩ (by simp) rfl).2
                    unfold Oper.wp
                    go_simp
                    go_at_fn g
                    refine (HC2.out w' hS.out).mono ?_
                    rintro e w9 ⟨rfl, hb9⟩
                    exact ⟨by simp [upd, e0, e4, e9], Lib.hid (hS.out.trans (hb9.mono hS.out.size))⟩
                · intro op ho lb' f' w' hd hS
                  have e10 : f' 10 = .bool (c x y) := (hd 10 (by omega)).2
                  replace ho := Option.some.inj ho
                  subst ho
                  refine ⟨rfl, ?_⟩
                  unfold Oper.wp
                  go_simp
                  first | (go_step; go_meet) | go_meet | skip
                  exact ⟨by rw [HCV2.out], hS.out⟩
              case rest =>
              obtain ⟨rfl, hbc⟩ := hcut
              obtain ⟨W2, rfl⟩ : ∃ W2 : World, W2 = wc := ⟨_, rfl⟩
              have HS2 := Lib.hid (HSO2.out.below hbc)
              have HCX3 := Lib.hid (HCX2.out.keep (fun p hp => World.cell?_of_block (w := wr) (hbc.block p.block (by rw [hp]; exact hgl2))))
              clear hbc
              have wj3 : IntKind.i64.wrap ((j : Int) + 1 + 1) = (j : Int) + 1 + 1 := IntWalk.i64_in _ (by omega)
              cases cv
              · go_wp2_with fail
                go_roundw
                case rel => exact ⟨b, j + 1, M, HML.out, ⟨HMm.out, by
                  rw [HMX.out.1, show a + 1 + (j + 1 + 1) = a + 1 + j + 2 by omega, show a + 1 + (j + 1) = a + 1 + j + 1 by omega, dedT, if_pos (by simpa using HXY2.out.1), List.append_nil], fun k hk => HMX.out.2 k (by omega)⟩, by omega, by omega, by go_num, by go_num, HS2.out⟩
                case measure => simp [intOf]; omega
              · have t5 : ((a : Int) + 1 + b).toNat = a + 1 + b := by omega
                have t6 : 0 ≤ (a : Int) + 1 + b := by omega
                have t8 : (a : Int) + 1 + b < (L.length : Int) := by omega
                have w8 : IntKind.i64.wrap ((a : Int) + 1 + b + 1) = (a : Int) + 1 + b + 1 := IntWalk.i64_in _ (by omega)
                have hso2 := HS2.out.2
                have hput := rw_put enC_len hso2 (a + 1 + b) x (by rw [HML.out]; omega)
                have hgs := rw_gsets (w := w) (g := gb) (enC x) ((a + 1 + b) * 5) W2 HS2.out.1
                have hxM : x ∈ L := HXL.out
                have HNW : Hid (enSo w gb cap (M.set (a + 1 + b) x) (W2.setCells gb ((a + 1 + b) * 5) (enC x))) := Lib.hid ⟨hgs, hput⟩
                have HSTC : Hid (∀ j', j' < (enC x).length → (W2.cell? ⟨gb, (a + 1 + b) * 5 + j', none⟩).isSome = true) := Lib.hid (fun j' hj' => rw_some hso2 (by rw [HML.out]; have : (enC x).length = 5 := rfl; omega))
                have HFZ : Hid (∀ j', W2.frozen? ⟨gb, j', none⟩ = false) := Lib.hid (fun j' => rw_froz hso2 j')
                clear hput hgs hso2
                go_upto_region 12 with (fail)
                first | refine load_stepR rfl HCX3.out (by kernel_rfl) rfl (by kernel_rfl) ?_ | (go_step; first | refine load_stepR rfl HCX3.out (by kernel_rfl) rfl (by kernel_rfl) ?_ | (go_step; first | refine load_stepR rfl HCX3.out (by kernel_rfl) rfl (by kernel_rfl) ?_ | (go_step; first | refine load_stepR rfl HCX3.out (by kernel_rfl) rfl (by kernel_rfl) ?_ | (go_step; first | refine load_stepR rfl HCX3.out (by kernel_rfl) rfl (by kernel_rfl) ?_ | (go_step; first | refine load_stepR rfl HCX3.out (by kernel_rfl) rfl (by kernel_rfl) ?_ | (go_step; first | refine load_stepR rfl HCX3.out (by kernel_rfl) rfl (by kernel_rfl) ?_ | (go_step; first | refine load_stepR rfl HCX3.out (by kernel_rfl) rfl (by kernel_rfl) ?_ | (go_step; first | refine load_stepR rfl HCX3.out (by kernel_rfl) rfl (by kernel_rfl) ?_ | (go_step; first | refine load_stepR rfl HCX3.out (by kernel_rfl) rfl (by kernel_rfl) ?_ | (go_step; first | refine load_stepR rfl HCX3.out (by kernel_rfl) rfl (by kernel_rfl) ?_ | (go_step; first | refine load_stepR rfl HCX3.out (by kernel_rfl) rfl (by kernel_rfl) ?_ | (go_step; first | refine load_stepR rfl HCX3.out (by kernel_rfl) rfl (by kernel_rfl) ?_ | (go_step; first | refine load_stepR rfl HCX3.out (by kernel_rfl) rfl (by kernel_rfl) ?_ | (go_step; first | refine load_stepR rfl HCX3.out (by kernel_rfl) rfl (by kernel_rfl) ?_ | (go_step; first | refine load_stepR rfl HCX3.out (by kernel_rfl) rfl (by kernel_rfl) ?_ | (go_step; first | refine load_stepR rfl HCX3.out (by kernel_rfl) rfl (by kernel_rfl) ?_ | (go_step; first | refine load_stepR rfl HCX3.out (by kernel_rfl) rfl (by kernel_rfl) ?_ | (go_step; first | refine load_stepR rfl HCX3.out (by kernel_rfl) rfl (by kernel_rfl) ?_ | (go_step; first | refine load_stepR rfl HCX3.out (by kernel_rfl) rfl (by kernel_rfl) ?_ | (go_step; first | refine load_stepR rfl HCX3.out (by kernel_rfl) rfl (by kernel_rfl) ?_ | (go_step; first | refine load_stepR rfl HCX3.out (by kernel_rfl) rfl (by kernel_rfl) ?_ | (go_step; first | refine load_stepR rfl HCX3.out (by kernel_rfl) rfl (by kernel_rfl) ?_ | (go_step; first | refine load_stepR rfl HCX3.out (by kernel_rfl) rfl (by kernel_rfl) ?_ | (go_step; first | refine load_stepR rfl HCX3.out (by kernel_rfl) rfl (by kernel_rfl) ?_ | (go_step; first | refine load_stepR rfl HCX3.out (by kernel_rfl) rfl (by kernel_rfl) ?_ | (go_step; refine load_stepR rfl HCX3.out (by kernel_rfl) rfl (by kernel_rfl) ?_))))))))))))))))))))))))))
                first | refine store_stepR (vs := enC x) rfl rfl HSTC.out HFZ.out rfl (by kernel_rfl) (enC_one x) ?_ | (go_step; first | refine store_stepR (vs := enC x) rfl rfl HSTC.out HFZ.out rfl (by kernel_rfl) (enC_one x) ?_ | (go_step; first | refine store_stepR (vs := enC x) rfl rfl HSTC.out HFZ.out rfl (by kernel_rfl) (enC_one x) ?_ | (go_step; first | refine store_stepR (vs := enC x) rfl rfl HSTC.out HFZ.out rfl (by kernel_rfl) (enC_one x) ?_ | (go_step; first | refine store_stepR (vs := enC x) rfl rfl HSTC.out HFZ.out rfl (by kernel_rfl) (enC_one x) ?_ | (go_step; first | refine store_stepR (vs := enC x) rfl rfl HSTC.out HFZ.out rfl (by kernel_rfl) (enC_one x) ?_ | (go_step; first | refine store_stepR (vs := enC x) rfl rfl HSTC.out HFZ.out rfl (by kernel_rfl) (enC_one x) ?_ | (go_step; first | refine store_stepR (vs := enC x) rfl rfl HSTC.out HFZ.out rfl (by kernel_rfl) (enC_one x) ?_ | (go_step; first | refine store_stepR (vs := enC x) rfl rfl HSTC.out HFZ.out rfl (by kernel_rfl) (enC_one x) ?_ | (go_step; first | refine store_stepR (vs := enC x) rfl rfl HSTC.out HFZ.out rfl (by kernel_rfl) (enC_one x) ?_ | (go_step; first | refine store_stepR (vs := enC x) rfl rfl HSTC.out HFZ.out rfl (by kernel_rfl) (enC_one x) ?_ | (go_step; first | refine store_stepR (vs := enC x) rfl rfl HSTC.out HFZ.out rfl (by kernel_rfl) (enC_one x) ?_ | (go_step; first | refine store_stepR (vs := enC x) rfl rfl HSTC.out HFZ.out rfl (by kernel_rfl) (enC_one x) ?_ | (go_step; first | refine store_stepR (vs := enC x) rfl rfl HSTC.out HFZ.out rfl (by kernel_rfl) (enC_one x) ?_ | (go_step; first | refine store_stepR (vs := enC x) rfl rfl HSTC.out HFZ.out rfl (by kernel_rfl) (enC_one x) ?_ | (go_step; first | refine store_stepR (vs := enC x) rfl rfl HSTC.out HFZ.out rfl (by kernel_rfl) (enC_one x) ?_ | (go_step; first | refine store_stepR (vs := enC x) rfl rfl HSTC.out HFZ.out rfl (by kernel_rfl) (enC_one x) ?_ | (go_step; first | refine store_stepR (vs := enC x) rfl rfl HSTC.out HFZ.out rfl (by kernel_rfl) (enC_one x) ?_ | (go_step; first | refine store_stepR (vs := enC x) rfl rfl HSTC.out HFZ.out rfl (by kernel_rfl) (enC_one x) ?_ | (go_step; first | refine store_stepR (vs := enC x) rfl rfl HSTC.out HFZ.out rfl (by kernel_rfl) (enC_one x) ?_ | (go_step; refine store_stepR (vs := enC x) rfl rfl HSTC.out HFZ.out rfl (by kernel_rfl) (enC_one x) ?_))))))))))))))))))))
                generalize World.setCells _ _ _ _ = WN at HNW ⊢
                go_wp2_with fail
                go_roundw
                case rel => exact ⟨b + 1, j + 1, M.set (a + 1 + b) x, by rw [List.length_set]; exact HML.out, ⟨fun z hz => (List.mem_or_eq_of_mem_set hz).elim (fun h => HMm.out z h) (fun h => h ▸ HXL.out), by
                  rw [show a + 1 + (j + 1 + 1) = a + 1 + j + 2 by omega, dedT, if_neg (by simpa using HXY2.out.1), show a + 1 + j + 1 = a + 1 + (j + 1) by omega, ← HMX.out.1, show a + 1 + (b + 1) = a + 1 + b + 1 by omega, List.take_succ_eq_append_getElem (by rw [List.length_set, HML.out]; omega), List.take_set_of_le (Nat.le_refl _), List.getElem_set_self, show a + 1 + (j + 1) = a + 1 + j + 1 by omega, HXY2.out.2], fun k hk => (by
                  rw [List.getD_eq_getElem?_getD, List.getElem?_set_ne (by omega), ← List.getD_eq_getElem?_getD]
                  exact HMX.out.2 k (by omega))⟩, by omega, by omega, by go_num, by go_num, HNW.out⟩
                case measure => simp [intOf]; omega
            · have hd9 : decide ((j : Int) + 1 < ((L.length - (a + 1) : Nat) : Int)) = false := by simp; omega
              have hkl : a + 1 + b < L.length := by omega
              have ncap2 : ¬ cap = a + 1 + b := by have := rw_cap HSO2.out.2; rw [HML.out] at this; omega
              have ncap3 : a + 1 + b ≤ cap := by have := rw_cap HSO2.out.2; rw [HML.out] at this; omega
              have t5 : ((a : Int) + 1 + b).toNat = a + 1 + b := by omega
              have t6 : 0 ≤ (a : Int) + 1 + b := by omega
              have t7 : (a : Int) + 1 + b ≤ (cap : Int) := by omega
              have t8 : (a : Int) + 1 + b ≤ (L.length : Int) := by omega
              have hcl := fun ty => en_clear wr ty gb ((a + 1 + b) * 5) (L.length - (a + 1 + b)) (cap - (a + 1 + b)) (by omega) (fun t ht => rw_some HSO2.out.2 (by rw [HML.out]; omega)) (fun t _ => rw_froz HSO2.out.2 _)
              have hsc := rw_setCells (Builtin.zeroCells enZ (L.length - (a + 1 + b))).toList ((a + 1 + b) * 5) wr _ (rw_cut HSO2.out.2 (k := a + 1 + b) (by rw [HML.out]; omega))
              have hl9 : (M.take (a + 1 + b)).length = a + 1 + b := by rw [List.length_take, HML.out]; omega
              rw [rwC_take enC_len, rwSets_far _ _ _ (Nat.le_of_eq ((rwC_length enC_len _).trans (by rw [hl9])))] at hsc
              have hsg := rw_gsets (w := wr) (g := gb) (Builtin.zeroCells enZ (L.length - (a + 1 + b))).toList ((a + 1 + b) * 5) wr (World.grownBy.refl wr _)
              have HSC := Lib.hid hsc
              have HSG := Lib.hid hsg
              have HL9 := Lib.hid hl9
              clear hsc hsg hl9
              go_upto_region 14 with (fail)
              go_wp2_with fail
              go_ret
              exact ⟨M.take (a + 1 + b), by rw [HMX.out.1, show a + 1 + (j + 1) = L.length by omega], by rw [HL9.out]; rfl, HSO2.out.1.andThen HSG.out (fun _ h => .inr h), by unfold enOwn; rw [HL9.out]; exact HSC.out⟩
      · have hdc : decide ((a : Int) + 1 < (L.length : Int)) = false := by simp; omega
        have HSO := Lib.hid hso
        clear hso
        go_wp2_with fail
        go_ret
        exact ⟨L, by rw [dedT_all _ (Nat.le_refl _) (fun t ht => HPRE.out t (by omega)), List.take_length], rfl, HSO.out⟩
end Go.Proofs.YtpbcbgoenoolfaaGreatDoor
