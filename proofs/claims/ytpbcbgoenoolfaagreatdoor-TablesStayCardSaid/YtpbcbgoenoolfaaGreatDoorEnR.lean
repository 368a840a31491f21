/- Entries of tables in memory. -/
import Derived.Test.YtpbcbgoenoolfaaGreatDoorRwS
import Derived.Test.YtpbcbgoenoolfaaGreatDoorDrS
import Derived.OwnWalk
import Derived.Deep.RegionHeld3
import Derived.Deep.RegionLaw
import Derived.Deep.Cut
import Derived.Deep.CutRange
import Derived.StillTailTactics
import Derived.Test.YtpbcbgoenoolfaaGreatDoorShelf
import Derived.Test.YtpbcbgoenoolfaaGreatDoorRgX
import Derived.Test.YtpbcbgoenoolfaaGreatDoorRgE
import Derived.Laws.StructEq
namespace Go.Proofs.YtpbcbgoenoolfaaGreatDoor
open Go.RowKit Go.Hw

/-- An entry of a table. -/
structure En where
  six : Bool
  hi : Int
  lo : Int
  bits : Int
  tgt : ByteArray
def noEn : En := ⟨false, 0, 0, 0, ⟨#[]⟩⟩

def enC (e : En) : List Value := [.bool e.six, .int .u64 e.hi, .int .u64 e.lo, .int .i64 e.bits, .string e.tgt]
theorem enC_len (e : En) : (enC e).length = 5 := rfl
abbrev enAt (w : World) (A : Option Addr) (L : List En) : Prop := RwAt enC 5 noEn w A L
abbrev enOwn (w : World) (base : Nat) (v : Value) (L : List En) : Prop := w.ownsRow base 43 5 v L.length (rwC enC L)
theorem en_cells {w : World} {g o : Nat} {e : En} (h : RwCells w g o (enC e)) : w.cell? ⟨g, o, none⟩ = some (.bool e.six) ∧ w.cell? ⟨g, o + 1, none⟩ = some (.int .u64 e.hi) ∧ w.cell? ⟨g, o + 2, none⟩ = some (.int .u64 e.lo) ∧ w.cell? ⟨g, o + 3, none⟩ = some (.int .i64 e.bits) ∧ w.cell? ⟨g, o + 4, none⟩ = some (.string e.tgt) := ⟨h 0 _ rfl, h 1 _ rfl, h 2 _ rfl, h 3 _ rfl, h 4 _ rfl⟩

/-- What is asked of a closure over these structs. -/
def enPred (g : Nat) (lb : Array Value) (p : En → Bool) (L : List En) (w : World) : Prop :=
  ∀ (W : World) (e : En), e ∈ L → Below w.heap.size w W → Calls Tryz.prog g (#[.agg #[.bool e.six, .int .u64 e.hi, .int .u64 e.lo, .int .i64 e.bits, .string e.tgt]] ++ lb) W fun en w' => en = .returned (.bool (p e)) ∧ Below W.heap.size W w'

theorem en_zero (w : World) : (zeroValue 43).run Tryz.prog w = .ok (.agg #[.bool false, .int .u64 0, .int .u64 0, .int .i64 0, .string ⟨#[]⟩]) w := by kernel_rfl
def enZ : Array Value := #[.bool false, .int .u64 0, .int .u64 0, .int .i64 0, .string ⟨#[]⟩]
theorem en_clear (w : World) (ty : TypeId) (b o n c : Nat) (hn : 0 < n) (hc : ∀ j, j < n * 5 → (w.cell? ⟨b, o + j, none⟩).isSome = true) (hf : ∀ j, j < n * 5 → w.frozen? ⟨b, o + j, none⟩ = false) :
    (Builtin.clear_ #[26] ty #[.slice (some ⟨b, o, none⟩) n c]).run Tryz.prog w = .ok (.tuple #[]) (w.setCells b o (Builtin.zeroCells enZ n).toList) := by
  have hl : (Builtin.zeroCells enZ n).toList.length = n * 5 := by
    simp [Builtin.zeroCells, enZ]
  have h1 : ∀ v ∈ (Builtin.zeroCells enZ n).toList, v.oneCell' = true := by
    intro v hv
    simp only [Builtin.zeroCells, Array.toList_map, List.mem_map] at hv
    obtain ⟨i, _, rfl⟩ := hv
    have hi : i % enZ.size < 5 := Nat.mod_lt _ (by decide)
    generalize i % enZ.size = k at hi
    have : k = 0 ∨ k = 1 ∨ k = 2 ∨ k = 3 ∨ k = 4 := by omega
    rcases this with rfl | rfl | rfl | rfl | rfl <;> rfl
  have hst := run_storeCells_cells (P := Tryz.prog) b o (Builtin.zeroCells enZ n).toList 0 w (by rw [hl]; simpa using hc) (by rw [hl]; simpa using hf) h1
  simp only [Nat.add_zero] at hst
  have hz := en_zero w
  obtain ⟨m, rfl⟩ : ∃ m, n = m + 1 := ⟨n - 1, by omega⟩
  have hcells : (Value.agg #[.bool false, .int .u64 0, .int .u64 0, .int .i64 0, .string ⟨#[]⟩]).cells = enZ := rfl
  simp [Builtin.clear_, run_underlying Tryz.underlying26, hz, hcells, hst]

theorem en_info : (Tryz.prog.info? 43).map (fun i => (i.zero, i.size, i.bytes)) = some (some (.agg #[.bool false, .int .u64 0, .int .u64 0, .int .i64 0, .string ⟨#[]⟩]), 5, 48) := by kernel_rfl
theorem enC_one (e : En) : ∀ u ∈ enC e, u.oneCell' = true := by
  intro u hu
  simp only [enC, List.mem_cons, List.not_mem_nil, or_false] at hu
  rcases hu with rfl | rfl | rfl | rfl | rfl <;> rfl
theorem ens_one (L : List En) : ∀ u ∈ rwC enC L, u.oneCell' = true := by
  intro u hu
  obtain ⟨x, _, hx⟩ := List.mem_flatMap.1 hu
  exact enC_one x u hx
/-- Cells of a row, one after the other. -/
theorem en_flat {w : World} {b off : Nat} {L : List En} (h : enAt w (some ⟨b, off, none⟩) L) (j : Nat) (u : Value) (hu : (rwC enC L)[j]? = some u) : w.cell? ⟨b, off + j, none⟩ = some u := by
  have hj := (List.getElem?_eq_some_iff.1 hu).1
  rw [rwC_length enC_len] at hj
  have hi : j / 5 < L.length := by omega
  obtain ⟨g, off', e, _, hc⟩ := h (j / 5) hi
  injection e with e
  simp only [Addr.mk.injEq, and_true] at e
  obtain ⟨rfl, rfl⟩ := e
  have hm : j = j / 5 * 5 + j % 5 := by omega
  rw [hm, rwC_at (d := noEn) enC_len L _ _ hi (by omega)] at hu
  have := hc (j % 5) u hu
  rwa [Nat.add_assoc, ← hm] at this

/-- What is asked of a comparison. -/
def enCmp (g : Nat) (lb : Array Value) (c : En → En → Int) (L : List En) (w : World) : Prop :=
  ∀ (W : World) (x y : En), x ∈ L → y ∈ L → Below w.heap.size w W → Calls Tryz.prog g (#[.agg #[.bool x.six, .int .u64 x.hi, .int .u64 x.lo, .int .i64 x.bits, .string x.tgt], .agg #[.bool y.six, .int .u64 y.hi, .int .u64 y.lo, .int .i64 y.bits, .string y.tgt]] ++ lb) W fun en w' => en = .returned (.int .i64 (c x y)) ∧ Below W.heap.size W w'
def enLt (c : En → En → Int) (x y : En) : Bool := decide (c x y < 0)
/-- The row, at each moment of the sort. -/
def enSo (w : World) (g cap : Nat) (M : List En) (wr : World) : Prop := w.grownBy wr (some g) ∧ enOwn wr 0 (.slice (some ⟨g, 0, none⟩) M.length cap) M
theorem enSo.drewN {w wr : World} {g cap : Nat} {M : List En} (h : enSo w g cap M wr) (n : Nat) : enSo w g cap M (wr.drewN n) := ⟨⟨h.1.os, h.1.tape, h.1.output, h.1.size, h.1.block⟩, rw_same h.2 fun _ _ => rfl⟩
theorem enSo.drew {w wr : World} {g cap : Nat} {M : List En} (h : enSo w g cap M wr) : enSo w g cap M wr.drew := ⟨⟨h.1.os, h.1.tape, h.1.output, h.1.size, h.1.block⟩, rw_same h.2 fun _ _ => rfl⟩
theorem enSo.below {w wr wq : World} {g cap : Nat} {M : List En} (h : enSo w g cap M wr) (hb : Below wr.heap.size wr wq) : enSo w g cap M wq := ⟨h.1.andThen (grownB hb _) (fun _ h => .inr h), rw_same h.2 fun k hk => hb.block k (h.2.lt k hk).2⟩
theorem enSo.cells {w wr : World} {g cap : Nat} {M : List En} (h : enSo w g cap M wr) {i : Nat} (hi : i < M.length) {x : En} (hx : M.getD i noEn = x) : RwCells wr g (i * 5) (enC x) := by
  obtain ⟨g5, off, e1, _, hc⟩ := rw_at' (d := noEn) enC_len h.2 i hi
  injection e1 with e1
  simp only [Addr.mk.injEq, and_true] at e1
  obtain ⟨rfl, rfl⟩ := e1
  rwa [hx, Nat.zero_add] at hc

set_option maxRecDepth 100000 in
set_option maxHeartbeats 2000000 in
theorem en_insertion (gb cap : Nat) (L : List En) (g : Nat) (lb : Array Value) (c : En → En → Int) (w : World) (eg : ∀ args w, (callFunc g args).run Tryz.prog w = .ok (.enter g args) w)
    (h : enOwn w 0 (.slice (some ⟨gb, 0, none⟩) L.length cap) L) (hl : L.length ≤ 1000000) (hp : ∀ wr, w.grownBy wr (some gb) → enCmp g lb c L wr) :
    Calls Tryz.prog 66 #[.slice (some ⟨gb, 0, none⟩) L.length cap, .int .i64 0, .int .i64 L.length, .func (.func g) #[] lb] w
      fun e w' => e = .returned (.tuple #[]) ∧ enSo w gb cap (isortL (enLt c) L) w' := by
  have H0 : Hid (enSo w gb cap (isortL (enLt c) (L.take 1) ++ L.drop 1) w) := Lib.hid (by
    have e : isortL (enLt c) (L.take 1) ++ L.drop 1 = L := by
      cases L with
      | nil => rfl
      | cons x L => rfl
    rw [e]
    exact ⟨World.grownBy.refl _ _, h⟩)
  have HP := Lib.hid hp
  clear h hp
  go_enter Tryz.func66, Tryz.ntmps66
  go_wp2_with fail
  go_loopw [8] (fun v8 wr => ∃ i : Nat, v8 = .int .i64 i ∧ 1 ≤ i ∧ (i ≤ L.length ∨ i = 1) ∧ enSo w gb cap (isortL (enLt c) (L.take i) ++ L.drop i) wr) (fun v8 _ => L.length - (intOf v8).toNat)
  case atStart => exact ⟨1, rfl, by omega, .inr rfl, H0.out⟩
  case round =>
    obtain ⟨i, rfl, hi1, hi2, hit⟩ := hrel
    by_cases hlt : i < L.length
    · clear H0
      generalize hS : isortL (enLt c) (L.take i) = S at hit
      have hSl : S.length = i := by rw [← hS, isortL_length, List.length_take]; omega
      have hSm : ∀ z ∈ S, z ∈ L := fun z hz => by rw [← hS] at hz; exact List.mem_of_mem_take (isortL_mem.1 hz)
      have hxL : L.getD i noEn ∈ L := rw_mem hlt
      rw [drop_cons' noEn hlt] at hit
      generalize hx : L.getD i noEn = x at *
      generalize hR : L.drop (i + 1) = R at *
      have hRl : i + 1 + R.length = L.length := by rw [← hR, List.length_drop]; omega
      have HS := Lib.hid hS
      have HX := Lib.hid hx
      have HR := Lib.hid hR
      have HSM := Lib.hid hSm
      have HIT := Lib.hid hit
      clear hS hx hR hSm hit
      go_wp2_with fail
      go_loopw [9] (fun v9 wq => ∃ A B : List En, S = A ++ B ∧ (∀ z ∈ B, enLt c x z = true) ∧ v9 = .int .i64 A.length ∧ enSo w gb cap (A ++ x :: (B ++ R)) wq) (fun v9 _ => (intOf v9).toNat)
      case atStart => exact ⟨S, [], by simp, fun z hz => by simp at hz, by rw [hSl], by simpa using HIT.out⟩
      case round =>
        obtain ⟨A, B, hAB, hB, rfl, hso⟩ := hrel
        have hAl : A.length + B.length = i := by rw [← hSl, hAB, List.length_append]
        have hMl : (A ++ x :: (B ++ R)).length = L.length := by simp; omega
        have hdone : (∀ y, A.getLast? = some y → enLt c x y = false) → isortL (enLt c) (L.take (i + 1)) ++ L.drop (i + 1) = A ++ x :: (B ++ R) := fun hA => by
          rw [take_succ' noEn hlt, HX.out, HR.out, isortL_snoc, HS.out, hAB, ins_at hB hA]
          simp
        have HD := Lib.hid hdone
        have HSO := Lib.hid hso
        have HAB := Lib.hid hAB
        have HB := Lib.hid hB
        clear hdone hso hAB hB HIT
        rcases List.eq_nil_or_concat A with hA | ⟨A', y, hA⟩
        · subst hA
          have hg0 : decide ((([] : List En).length : Int) > 0) = false := by simp
          go_wp2_with fail
          go_quiet (fail)
          go_wp2_with fail
          go_roundw
          case rel => exact ⟨i + 1, by go_num, by omega, by omega, by rw [HD.out (fun y hy => by simp at hy)]; exact HSO.out.drewN _⟩
          case measure => simp [intOf]; omega
        · rw [List.concat_eq_append] at hA
          subst hA
          have hMe : A' ++ [y] ++ x :: (B ++ R) = A' ++ y :: x :: (B ++ R) := by simp
          have hyL : y ∈ L := HSM.out y (by rw [HAB.out]; simp)
          have hlen : (A' ++ [y]).length = A'.length + 1 := by simp
          have HCY : Hid (RwCells wr gb (A'.length * 5) (enC y)) := Lib.hid (HSO.out.cells (i := A'.length) (x := y) (by simp) (by rw [hMe]; exact at_here _ _ _ _))
          have HCX : Hid (RwCells wr gb ((A'.length + 1) * 5) (enC x)) := Lib.hid (HSO.out.cells (i := A'.length + 1) (x := x) (by simp) (by rw [← hlen]; exact at_here _ _ _ _))
          have hgl : gb < wr.heap.size := (HSO.out.2.lt gb rfl).2
          have hlen2 : A'.length + 1 < L.length := by rw [← hMl]; simp
          have HC := Lib.hid (fun W (hb : Below wr.heap.size wr W) => HP.out wr HSO.out.1 W x y hxL hyL hb)
          rw [hlen]
          have HLEN := Lib.hid hlen
          have HML := Lib.hid hMl
          have HAL := Lib.hid hAl
          have HME := Lib.hid hMe
          clear hlen hMl hAl hMe
          generalize hal : A'.length = a at *
          have HALN := Lib.hid hal
          clear hal
          have s1 : ((a : Int) + 1).toNat = a + 1 := by omega
          have s2 : (a : Int) + 1 < (L.length : Int) := by omega
          have s3 : (a : Int) < (L.length : Int) := by omega
          have s4 : 0 ≤ (a : Int) + 1 := by omega
          have s5 : IntKind.i64.wrap ((a : Int) + 1 - 1) = (a : Int) := by rw [show (a : Int) + 1 - 1 = a by omega]; exact IntWalk.i64_in _ (by omega)
          have s7 : IntKind.i64.wrap (a : Int) = (a : Int) := IntWalk.i64_in _ (by omega)
          have s8 : 0 ≤ (a : Int) := by omega
          have s6 : decide ((a : Int) + 1 > 0) = true := decide_eq_true (by omega)
          rw [show ((a + 1 : Nat) : Int) = (a : Int) + 1 from by omega]
          go_upto_region 4 with (fail)
          go_cut [34] from 18 to 33 (fun v34 wx => v34 = .bool (enLt c x y) ∧ Below wr.heap.size wr wx)
          case first =>
            refine wp_region_exact 16 (fun f' => ⟨#[.slice (some ⟨gb, 0, none⟩) L.length cap, .int .i64 0, .int .i64 L.length, .func (Fn.func g) #[] lb, undef, undef, undef, undef, .int .i64 i, .int .i64 ((a : Int) + 1), .int .i64 0, .int .i64 1, .int .i64 i, .int .i64 L.length, .bool true, u15, u16, .int .i64 i, f' 0, f' 1, f' 2, f' 3, f' 4, f' 5, f' 6, f' 7, f' 8, f' 9, f' 10, f' 11, f' 12, f' 13, f' 14, f' 15, u34, u35, u36, u37, u38, u39, u40, u41, u42, u43, u44, u45, u46, u47, u48, u49, u50, u51, u52], []⟩) (fun i => match i with | 0 => .int .i64 ((a : Int) + 1) | 1 => .int .i64 0 | 2 => .bool true | 3 => .bool true | 4 => .func (Fn.func g) #[] lb | 5 => .slice (some ⟨gb, 0, none⟩) L.length cap | 6 => .int .i64 ((a : Int) + 1) | 7 => .pointer (some ⟨gb, (a + 1) * 5, none⟩) | 8 => .agg #[.bool x.six, .int .u64 x.hi, .int .u64 x.lo, .int .i64 x.bits, .string x.tgt] | 9 => .slice (some ⟨gb, 0, none⟩) L.length cap | 10 => .int .i64 ((a : Int) + 1) | 11 => .int .i64 (a : Int) | 12 => .pointer (some ⟨gb, a * 5, none⟩) | 13 => .agg #[.bool y.six, .int .u64 y.hi, .int .u64 y.lo, .int .i64 y.bits, .string y.tgt] | 14 => .int .i64 (c x y) | 15 => .bool (enLt c x y) | _ => undef) (fun lb' w' => Hid (Below wr.heap.size wr w')) (fun i => match i with | 0 => u18 | 1 => u19 | 2 => u20 | 3 => u21 | 4 => u22 | 5 => u23 | 6 => u24 | 7 => u25 | 8 => u26 | 9 => u27 | 10 => u28 | 11 => u29 | 12 => u30 | 13 => u31 | 14 => u32 | 15 => u33 | _ => undef) 10 (show Tryz.prog.follows .mixedOrders = true from by kernel_rfl) (by kernel_rfl) ?_ ?_ (Lib.hid (Below.refl _ _).drew)
            · intro i op hi ho lb' f' w' hl hS hd
              have hcase : i = 0 ∨ i = 1 ∨ i = 2 ∨ i = 3 ∨ i = 4 ∨ i = 5 ∨ i = 6 ∨ i = 7 ∨ i = 8 ∨ i = 9 ∨ i = 10 ∨ i = 11 ∨ i = 12 ∨ i = 13 ∨ i = 14 ∨ i = 15 := by omega
              rcases hcase with rfl | rfl | rfl | rfl | rfl | rfl | rfl | rfl | rfl | rfl | rfl | rfl | rfl | rfl | rfl | rfl <;> (replace ho := Option.some.inj ho; subst ho)
              · refine OpStep.of rfl ?_
                unfold Oper.wp
                go_simp
                first | exact ⟨by first | (simp [upd]; done) | (simp [upd]; omega), hS⟩ | (simp [upd]; done) | (simp [upd]; omega)
              · refine OpStep.of rfl ?_
                unfold Oper.wp
                go_simp
                first | exact ⟨by first | (simp [upd]; done) | (simp [upd]; omega), hS⟩ | (simp [upd]; done) | (simp [upd]; omega)
              · have e0 : f' 0 = .int .i64 ((a : Int) + 1) := (hd ⟨0, .data⟩ (by simp) rfl).2
                have e1 : f' 1 = .int .i64 0 := (hd ⟨1, .data⟩ (by simp) rfl).2
                refine OpStep.of rfl ?_
                unfold Oper.wp
                go_simp
                first | exact ⟨by first | (simp [upd, e0, e1]; done) | (simp [upd, e0, e1]; omega), hS⟩ | (simp [upd, e0, e1]; done) | (simp [upd, e0, e1]; omega)
              · have e2 : f' 2 = .bool true := (hd ⟨2, .data⟩ (by simp) rfl).2
                refine OpStep.of rfl ?_
                unfold Oper.wp
                go_simp
                first | exact ⟨by first | (simp [upd, e2]; done) | (simp [upd, e2]; omega), hS⟩ | (simp [upd, e2]; done) | (simp [upd, e2]; omega)
              · refine OpStep.of (by have e3 : f' 3 = .bool true := (hd ⟨3, .guard⟩ (by simp) rfl).2; simp [Region.wanted, yielded, e3]) ?_
                unfold Oper.wp
                go_simp
                first | exact ⟨by first | (simp [upd]; done) | (simp [upd]; omega), hS⟩ | (simp [upd]; done) | (simp [upd]; omega)
              · refine OpStep.of (by have e3 : f' 3 = .bool true := (hd ⟨3, .guard⟩ (by simp) rfl).2; simp [Region.wanted, yielded, e3]) ?_
                unfold Oper.wp
                go_simp
                first | exact ⟨by first | (simp [upd]; done) | (simp [upd]; omega), hS⟩ | (simp [upd]; done) | (simp [upd]; omega)
              · refine OpStep.of (by have e3 : f' 3 = .bool true := (hd ⟨3, .guard⟩ (by simp) rfl).2; simp [Region.wanted, yielded, e3]) ?_
                unfold Oper.wp
                go_simp
                first | exact ⟨by first | (simp [upd]; done) | (simp [upd]; omega), hS⟩ | (simp [upd]; done) | (simp [upd]; omega)
              · have e5 : f' 5 = .slice (some ⟨gb, 0, none⟩) L.length cap := (hd ⟨5, .data⟩ (by simp) rfl).2
                have e6 : f' 6 = .int .i64 ((a : Int) + 1) := (hd ⟨6, .data⟩ (by simp) rfl).2
                refine OpStep.of (by have e3 : f' 3 = .bool true := (hd ⟨3, .guard⟩ (by simp) rfl).2; simp [Region.wanted, yielded, e3]) ?_
                unfold Oper.wp
                go_simp
                first | exact ⟨by first | (simp [upd, e5, e6]; done) | (simp [upd, e5, e6]; omega), hS⟩ | (simp [upd, e5, e6]; done) | (simp [upd, e5, e6]; omega)
              · have e7 : f' 7 = .pointer (some ⟨gb, (a + 1) * 5, none⟩) := (hd ⟨7, .data⟩ (by simp) rfl).2
                refine OpStep.of (by have e3 : f' 3 = .bool true := (hd ⟨3, .guard⟩ (by simp) rfl).2; simp [Region.wanted, yielded, e3]) ?_
                have e7 : f' 7 = .pointer (some ⟨gb, (a + 1) * 5, none⟩) := (hd ⟨7, .data⟩ (by simp) rfl).2
                refine load_stepR e7 (HCX.out.keep (fun p hp => World.cell?_of_block (hS.out.block p.block (by rw [hp]; exact hgl)))) (by kernel_rfl) rfl (by kernel_rfl) ?_
                exact ⟨rfl, hS⟩
              · refine OpStep.of (by have e3 : f' 3 = .bool true := (hd ⟨3, .guard⟩ (by simp) rfl).2; simp [Region.wanted, yielded, e3]) ?_
                unfold Oper.wp
                go_simp
                first | exact ⟨by first | (simp [upd]; done) | (simp [upd]; omega), hS⟩ | (simp [upd]; done) | (simp [upd]; omega)
              · refine OpStep.of (by have e3 : f' 3 = .bool true := (hd ⟨3, .guard⟩ (by simp) rfl).2; simp [Region.wanted, yielded, e3]) ?_
                unfold Oper.wp
                go_simp
                first | exact ⟨by first | (simp [upd]; done) | (simp [upd]; omega), hS⟩ | (simp [upd]; done) | (simp [upd]; omega)
              · have e10 : f' 10 = .int .i64 ((a : Int) + 1) := (hd ⟨10, .data⟩ (by simp) rfl).2
                refine OpStep.of (by have e3 : f' 3 = .bool true := (hd ⟨3, .guard⟩ (by simp) rfl).2; simp [Region.wanted, yielded, e3]) ?_
                unfold Oper.wp
                go_simp
                first | exact ⟨by first | (simp [upd, e10]; done) | (simp [upd, e10]; omega), hS⟩ | (simp [upd, e10]; done) | (simp [upd, e10]; omega)
              · have e9 : f' 9 = .slice (some ⟨gb, 0, none⟩) L.length cap := (hd ⟨9, .data⟩ (by simp) rfl).2
                have e11 : f' 11 = .int .i64 (a : Int) := (hd ⟨11, .data⟩ (by simp) rfl).2
                refine OpStep.of (by have e3 : f' 3 = .bool true := (hd ⟨3, .guard⟩ (by simp) rfl).2; simp [Region.wanted, yielded, e3]) ?_
                unfold Oper.wp
                go_simp
                first | exact ⟨by first | (simp [upd, e9, e11]; done) | (simp [upd, e9, e11]; omega), hS⟩ | (simp [upd, e9, e11]; done) | (simp [upd, e9, e11]; omega)
              · have e12 : f' 12 = .pointer (some ⟨gb, a * 5, none⟩) := (hd ⟨12, .data⟩ (by simp) rfl).2
                refine OpStep.of (by have e3 : f' 3 = .bool true := (hd ⟨3, .guard⟩ (by simp) rfl).2; simp [Region.wanted, yielded, e3]) ?_
                have e12 : f' 12 = .pointer (some ⟨gb, a * 5, none⟩) := (hd ⟨12, .data⟩ (by simp) rfl).2
                refine load_stepR e12 (HCY.out.keep (fun p hp => World.cell?_of_block (hS.out.block p.block (by rw [hp]; exact hgl)))) (by kernel_rfl) rfl (by kernel_rfl) ?_
                exact ⟨rfl, hS⟩
              · have e4 : f' 4 = .func (Fn.func g) #[] lb := (hd ⟨4, .data⟩ (by simp) rfl).2
                have e8 : f' 8 = .agg #[.bool x.six, .int .u64 x.hi, .int .u64 x.lo, .int .i64 x.bits, .string x.tgt] := (hd ⟨8, .data⟩ (by simp) rfl).2
                have e13 : f' 13 = .agg #[.bool y.six, .int .u64 y.hi, .int .u64 y.lo, .int .i64 y.bits, .string y.tgt] := (hd ⟨13, .data⟩ (by simp) rfl).2
                refine OpStep.of (by have e3 : f' 3 = .bool true := (hd ⟨3, .guard⟩ (by simp) rfl).2; simp [Region.wanted, yielded, e3]) ?_
                have e4 : f' 4 = .func (Fn.func g) #[] lb := (hd ⟨4, .data⟩ (by simp) rfl).2
                have e8 : f' 8 = .agg #[.bool x.six, .int .u64 x.hi, .int .u64 x.lo, .int .i64 x.bits, .string x.tgt] := (hd ⟨8, .data⟩ (by simp) rfl).2
                have e13 : f' 13 = .agg #[.bool y.six, .int .u64 y.hi, .int .u64 y.lo, .int .i64 y.bits, .string y.tgt] := (hd ⟨13, .data⟩ (by simp) rfl).2
                unfold Oper.wp
                go_simp
                go_at_fn g
                refine (HC.out w' hS.out).mono ?_
                rintro e w9 ⟨rfl, hb9⟩
                exact ⟨by simp [upd, e4, e8, e13], Lib.hid (hS.out.trans (hb9.mono hS.out.size))⟩
              · have e14 : f' 14 = .int .i64 (c x y) := (hd ⟨14, .data⟩ (by simp) rfl).2
                refine OpStep.of (by have e3 : f' 3 = .bool true := (hd ⟨3, .guard⟩ (by simp) rfl).2; simp [Region.wanted, yielded, e3]) ?_
                unfold Oper.wp
                go_simp
                first | exact ⟨by first | (simp [upd, e14, enLt]; done) | (simp [upd, e14, enLt]; omega), hS⟩ | (simp [upd, e14, enLt]; done) | (simp [upd, e14, enLt]; omega)
            · intro op ho lb' f' w' hd hS
              have e3 : f' 3 = .bool true := (hd 3 (by omega)).2
              have e15 : f' 15 = .bool (enLt c x y) := (hd 15 (by omega)).2
              replace ho := Option.some.inj ho
              subst ho
              refine ⟨rfl, ?_⟩
              have e3 : f' 3 = .bool true := (hd 3 (by omega)).2
              unfold Oper.wp
              go_simp
              go_step
              go_meet
              exact ⟨rfl, hS.out⟩
          obtain ⟨rfl, hbc⟩ := hcut
          have hsoc := HSO.out.below hbc
          cases hq : enLt c x y
          · have HSC := Lib.hid hsoc
            clear hsoc hbc
            go_wp2_with fail
            go_roundw
            case rel => exact ⟨i + 1, by go_num, by omega, by omega, by rw [HD.out (fun z hz => by rw [List.getLast?_append, List.getLast?_singleton] at hz; simp at hz; rw [← hz]; exact hq)]; exact HSC.out⟩
            case measure => simp [intOf]; omega
          · have HSC := Lib.hid hsoc
            have hya : (A' ++ [y] ++ x :: (B ++ R)).getD a noEn = y := by rw [HME.out, ← HALN.out]; exact at_here _ _ _ _
            have hxa : (A' ++ [y] ++ x :: (B ++ R)).getD (a + 1) noEn = x := by rw [← HALN.out, show A'.length + 1 = (A' ++ [y]).length by simp]; exact at_here _ _ _ _
            have HYA := Lib.hid hya
            have HXA := Lib.hid hxa
            have hsw : ((A' ++ [y] ++ x :: (B ++ R)).set (a + 1) y).set a x = A' ++ x :: ((y :: B) ++ R) := by
              rw [HME.out, ← HALN.out, swap_at]
              rfl
            have HSW := Lib.hid hsw
            clear hsoc hbc hya hxa hsw
            generalize A' ++ [y] ++ x :: (B ++ R) = M at HSC HYA HXA HSW HML
            go_upto_region 6 with (fail)
            refine wp_region_exact 17 (fun f' => ⟨#[.slice (some ⟨gb, 0, none⟩) L.length cap, .int .i64 0, .int .i64 L.length, .func (Fn.func g) #[] lb, undef, undef, undef, undef, .int .i64 i, .int .i64 ((a : Int) + 1), .int .i64 0, .int .i64 1, .int .i64 i, .int .i64 L.length, .bool true, u15, u16, .int .i64 i, u18, u19, u20, u21, u22, u23, u24, u25, u26, u27, u28, u29, u30, u31, u32, u33, .bool true, u35, u36, f' 0, f' 1, f' 2, f' 3, f' 4, f' 5, f' 6, f' 7, f' 8, f' 9, f' 10, f' 11, f' 12, f' 13, f' 14, f' 16], []⟩) (fun i => match i with | 0 => .slice (some ⟨gb, 0, none⟩) L.length cap | 1 => .int .i64 ((a : Int) + 1) | 2 => .slice (some ⟨gb, 0, none⟩) L.length cap | 3 => .int .i64 ((a : Int) + 1) | 4 => .int .i64 (a : Int) | 5 => .slice (some ⟨gb, 0, none⟩) L.length cap | 6 => .int .i64 ((a : Int) + 1) | 7 => .int .i64 (a : Int) | 8 => .pointer (some ⟨gb, a * 5, none⟩) | 9 => .agg #[.bool y.six, .int .u64 y.hi, .int .u64 y.lo, .int .i64 y.bits, .string y.tgt] | 10 => .slice (some ⟨gb, 0, none⟩) L.length cap | 11 => .int .i64 ((a : Int) + 1) | 12 => .pointer (some ⟨gb, (a + 1) * 5, none⟩) | 13 => .agg #[.bool x.six, .int .u64 x.hi, .int .u64 x.lo, .int .i64 x.bits, .string x.tgt] | 14 => .pointer (some ⟨gb, (a + 1) * 5, none⟩) | 15 => undef | 16 => .pointer (some ⟨gb, a * 5, none⟩) | _ => undef) (fun lb' w' => Hid (enSo w gb cap (if lb' 15 = true then M.set (a + 1) y else M) w' ∧ (lb' 15 = true → lb' 9 = true ∧ lb' 13 = true))) (fun i => match i with | 0 => u37 | 1 => u38 | 2 => u39 | 3 => u40 | 4 => u41 | 5 => u42 | 6 => u43 | 7 => u44 | 8 => u45 | 9 => u46 | 10 => u47 | 11 => u48 | 12 => u49 | 13 => u50 | 14 => u51 | 16 => u52 | _ => undef) 10 (show Tryz.prog.follows .mixedOrders = true from by kernel_rfl) (by kernel_rfl) ?_ ?_ (Lib.hid ⟨HSC.out.drew, fun c => by cases c⟩)
            · intro i op hi ho lb' f' w' hl hS hd
              have hcase : i = 0 ∨ i = 1 ∨ i = 2 ∨ i = 3 ∨ i = 4 ∨ i = 5 ∨ i = 6 ∨ i = 7 ∨ i = 8 ∨ i = 9 ∨ i = 10 ∨ i = 11 ∨ i = 12 ∨ i = 13 ∨ i = 14 ∨ i = 15 ∨ i = 16 := by omega
              rcases hcase with rfl | rfl | rfl | rfl | rfl | rfl | rfl | rfl | rfl | rfl | rfl | rfl | rfl | rfl | rfl | rfl | rfl <;> (replace ho := Option.some.inj ho; subst ho)
              · refine OpStep.of rfl ?_
                unfold Oper.wp
                go_simp
                first | exact ⟨by first | (simp [upd]; done) | (simp [upd]; omega), hS⟩ | (simp [upd]; done) | (simp [upd]; omega)
              · refine OpStep.of rfl ?_
                unfold Oper.wp
                go_simp
                first | exact ⟨by first | (simp [upd]; done) | (simp [upd]; omega), hS⟩ | (simp [upd]; done) | (simp [upd]; omega)
              · refine OpStep.of rfl ?_
                unfold Oper.wp
                go_simp
                first | exact ⟨by first | (simp [upd]; done) | (simp [upd]; omega), hS⟩ | (simp [upd]; done) | (simp [upd]; omega)
              · refine OpStep.of rfl ?_
                unfold Oper.wp
                go_simp
                first | exact ⟨by first | (simp [upd]; done) | (simp [upd]; omega), hS⟩ | (simp [upd]; done) | (simp [upd]; omega)
              · have e3 : f' 3 = .int .i64 ((a : Int) + 1) := (hd ⟨3, .data⟩ (by simp) rfl).2
                refine OpStep.of rfl ?_
                unfold Oper.wp
                go_simp
                first | exact ⟨by first | (simp [upd, e3]; done) | (simp [upd, e3]; omega), hS⟩ | (simp [upd, e3]; done) | (simp [upd, e3]; omega)
              · refine OpStep.of rfl ?_
                unfold Oper.wp
                go_simp
                first | exact ⟨by first | (simp [upd]; done) | (simp [upd]; omega), hS⟩ | (simp [upd]; done) | (simp [upd]; omega)
              · refine OpStep.of rfl ?_
                unfold Oper.wp
                go_simp
                first | exact ⟨by first | (simp [upd]; done) | (simp [upd]; omega), hS⟩ | (simp [upd]; done) | (simp [upd]; omega)
              · have e6 : f' 6 = .int .i64 ((a : Int) + 1) := (hd ⟨6, .data⟩ (by simp) rfl).2
                refine OpStep.of rfl ?_
                unfold Oper.wp
                go_simp
                first | exact ⟨by first | (simp [upd, e6]; done) | (simp [upd, e6]; omega), hS⟩ | (simp [upd, e6]; done) | (simp [upd, e6]; omega)
              · have e5 : f' 5 = .slice (some ⟨gb, 0, none⟩) L.length cap := (hd ⟨5, .data⟩ (by simp) rfl).2
                have e7 : f' 7 = .int .i64 (a : Int) := (hd ⟨7, .data⟩ (by simp) rfl).2
                refine OpStep.of rfl ?_
                unfold Oper.wp
                go_simp
                first | exact ⟨by first | (simp [upd, e5, e7]; done) | (simp [upd, e5, e7]; omega), hS⟩ | (simp [upd, e5, e7]; done) | (simp [upd, e5, e7]; omega)
              · have e8 : f' 8 = .pointer (some ⟨gb, a * 5, none⟩) := (hd ⟨8, .data⟩ (by simp) rfl).2
                refine OpStep.of rfl ?_
                have e8 : f' 8 = .pointer (some ⟨gb, a * 5, none⟩) := (hd ⟨8, .data⟩ (by simp) rfl).2
                have l15 : lb' 15 = false := by cases h : lb' 15; rfl; exact absurd ((hS.out.2 h).1) (by rw [hl]; decide)
                have hso := hS.out.1
                rw [l15, if_neg (by decide)] at hso
                refine load_stepR e8 (hso.cells (by rw [HML.out]; omega) HYA.out) (by kernel_rfl) rfl (by kernel_rfl) ?_
                exact ⟨rfl, Lib.hid ⟨hS.out.1, fun h => ⟨rfl, (hS.out.2 h).2⟩⟩⟩
              · refine OpStep.of rfl ?_
                unfold Oper.wp
                go_simp
                first | exact ⟨by first | (simp [upd]; done) | (simp [upd]; omega), hS⟩ | (simp [upd]; done) | (simp [upd]; omega)
              · refine OpStep.of rfl ?_
                unfold Oper.wp
                go_simp
                first | exact ⟨by first | (simp [upd]; done) | (simp [upd]; omega), hS⟩ | (simp [upd]; done) | (simp [upd]; omega)
              · have e10 : f' 10 = .slice (some ⟨gb, 0, none⟩) L.length cap := (hd ⟨10, .data⟩ (by simp) rfl).2
                have e11 : f' 11 = .int .i64 ((a : Int) + 1) := (hd ⟨11, .data⟩ (by simp) rfl).2
                refine OpStep.of rfl ?_
                unfold Oper.wp
                go_simp
                first | exact ⟨by first | (simp [upd, e10, e11]; done) | (simp [upd, e10, e11]; omega), hS⟩ | (simp [upd, e10, e11]; done) | (simp [upd, e10, e11]; omega)
              · have e12 : f' 12 = .pointer (some ⟨gb, (a + 1) * 5, none⟩) := (hd ⟨12, .data⟩ (by simp) rfl).2
                refine OpStep.of rfl ?_
                have e12 : f' 12 = .pointer (some ⟨gb, (a + 1) * 5, none⟩) := (hd ⟨12, .data⟩ (by simp) rfl).2
                have l15 : lb' 15 = false := by cases h : lb' 15; rfl; exact absurd ((hS.out.2 h).2) (by rw [hl]; decide)
                have hso := hS.out.1
                rw [l15, if_neg (by decide)] at hso
                refine load_stepR e12 (hso.cells (by rw [HML.out]; omega) HXA.out) (by kernel_rfl) rfl (by kernel_rfl) ?_
                exact ⟨rfl, Lib.hid ⟨hS.out.1, fun h => ⟨(hS.out.2 h).1, rfl⟩⟩⟩
              · have e0 : f' 0 = .slice (some ⟨gb, 0, none⟩) L.length cap := (hd ⟨0, .data⟩ (by simp) rfl).2
                have e1 : f' 1 = .int .i64 ((a : Int) + 1) := (hd ⟨1, .data⟩ (by simp) rfl).2
                refine OpStep.of rfl ?_
                unfold Oper.wp
                go_simp
                first | exact ⟨by first | (simp [upd, e0, e1]; done) | (simp [upd, e0, e1]; omega), hS⟩ | (simp [upd, e0, e1]; done) | (simp [upd, e0, e1]; omega)
              · have e9 : f' 9 = .agg #[.bool y.six, .int .u64 y.hi, .int .u64 y.lo, .int .i64 y.bits, .string y.tgt] := (hd ⟨9, .data⟩ (by simp) rfl).2
                have e14 : f' 14 = .pointer (some ⟨gb, (a + 1) * 5, none⟩) := (hd ⟨14, .data⟩ (by simp) rfl).2
                refine OpStep.of rfl ?_
                have e14 : f' 14 = .pointer (some ⟨gb, (a + 1) * 5, none⟩) := (hd ⟨14, .data⟩ (by simp) rfl).2
                have e9 : f' 9 = .agg #[.bool y.six, .int .u64 y.hi, .int .u64 y.lo, .int .i64 y.bits, .string y.tgt] := (hd ⟨9, .data⟩ (by simp) rfl).2
                have l9 := (hd ⟨9, .data⟩ (by simp) rfl).1
                have l13 := (hd ⟨13, .phase⟩ (by simp) rfl).1
                have hso := hS.out.1
                rw [hl, if_neg (by decide)] at hso
                have hcx := hso.cells (i := a + 1) (by rw [HML.out]; omega) HXA.out
                refine store_stepR (vs := enC y) e14 e9 (fun j hj => by rw [hcx j _ (List.getElem?_eq_getElem (show j < (enC x).length from hj))]; rfl) (fun j => rw_froz hso.2 j) rfl (by kernel_rfl) (enC_one y) ?_
                exact ⟨rfl, Lib.hid ⟨⟨rw_gsets _ _ _ hso.1, rw_put enC_len hso.2 (a + 1) y (by rw [HML.out]; omega)⟩, fun _ => ⟨l9, l13⟩⟩⟩
              · have e2 : f' 2 = .slice (some ⟨gb, 0, none⟩) L.length cap := (hd ⟨2, .data⟩ (by simp) rfl).2
                have e4 : f' 4 = .int .i64 (a : Int) := (hd ⟨4, .data⟩ (by simp) rfl).2
                refine OpStep.of rfl ?_
                unfold Oper.wp
                go_simp
                first | exact ⟨by first | (simp [upd, e2, e4]; done) | (simp [upd, e2, e4]; omega), hS⟩ | (simp [upd, e2, e4]; done) | (simp [upd, e2, e4]; omega)
            · intro op ho lb' f' w' hd hS
              have e13 : f' 13 = .agg #[.bool x.six, .int .u64 x.hi, .int .u64 x.lo, .int .i64 x.bits, .string x.tgt] := (hd 13 (by omega)).2
              have e16 : f' 16 = .pointer (some ⟨gb, a * 5, none⟩) := (hd 16 (by omega)).2
              replace ho := Option.some.inj ho
              subst ho
              refine ⟨rfl, ?_⟩
              have hso := hS.out.1
              rw [(hd 15 (by omega)).1, if_pos rfl] at hso
              have hcy := hso.cells (i := a) (x := y) (by rw [List.length_set, HML.out]; omega) (by rw [List.getD_eq_getElem?_getD, List.getElem?_set_ne (by omega), ← List.getD_eq_getElem?_getD]; exact HYA.out)
              refine store_stepR (vs := enC x) e16 e13 (fun j hj => by rw [hcy j _ (List.getElem?_eq_getElem (show j < (enC y).length from hj))]; rfl) (fun j => rw_froz hso.2 j) rfl (by kernel_rfl) (enC_one x) ?_
              have hput2 := rw_put enC_len hso.2 a x (by rw [List.length_set, HML.out]; omega)
              rw [HSW.out] at hput2
              have HN : Hid (enSo w gb cap (A' ++ x :: ((y :: B) ++ R)) (w'.setCells gb (a * 5) (enC x))) := Lib.hid ⟨rw_gsets _ _ _ hso.1, hput2⟩
              clear hso hcy hput2 hS e16 e13
              generalize World.setCells _ _ _ _ = WN at HN ⊢
              go_wp2_with fail
              go_roundw
              case rel => exact ⟨A', y :: B, by rw [HAB.out]; simp, fun z hz => by
                rcases List.mem_cons.1 hz with hz | hz
                · rw [hz]; exact hq
                · exact HB.out z hz, by rw [HALN.out], HN.out⟩
              case measure => simp [intOf]
    · have HIT := Lib.hid (show enSo w gb cap (isortL (enLt c) L) wr by
        rw [List.take_of_length_le (by omega), List.drop_of_length_le (by omega), List.append_nil] at hit
        exact hit)
      clear hit
      have hd : decide ((i : Int) < (L.length : Int)) = false := by simp; omega
      go_wp2_with fail
      go_end0
      exact ⟨rfl, HIT.out⟩

/-- The row, sorted, wherever it lies. -/
def enSoA (w : World) (A : Option Addr) (cap : Nat) (M : List En) (wr : World) : Prop := w.grownBy wr (Value.slice A M.length cap).ownBlock ∧ enOwn wr 0 (.slice A M.length cap) M
set_option maxRecDepth 100000 in
set_option maxHeartbeats 400000 in
theorem en_insAny (A : Option Addr) (cap : Nat) (L : List En) (g : Nat) (lb : Array Value) (c : En → En → Int) (w : World) (eg : ∀ args w, (callFunc g args).run Tryz.prog w = .ok (.enter g args) w)
    (h : enOwn w 0 (.slice A L.length cap) L) (hl : L.length ≤ 1000000) (hp : ∀ wr, w.grownBy wr (Value.slice A L.length cap).ownBlock → enCmp g lb c L wr) :
    Calls Tryz.prog 66 #[.slice A L.length cap, .int .i64 0, .int .i64 L.length, .func (.func g) #[] lb] w
      fun e w' => e = .returned (.tuple #[]) ∧ enSoA w A cap (isortL (enLt c) L) w' := by
  rcases h.2 with ⟨h1, h2⟩ | ⟨gb, cap', cur, h1, _⟩
  · have : L = [] := List.length_eq_zero_iff.1 h2
    subst this
    have HR := Lib.hid (show enSoA w A cap (isortL (enLt c) []) w from ⟨World.grownBy.refl _ _, h⟩)
    clear hp h h1 h2
    go_enter Tryz.func66, Tryz.ntmps66
    go_wp2_with fail
    go_loopw [8] (fun v8 wr => v8 = .int .i64 1 ∧ wr = w) (fun _ _ => 0)
    case atStart => exact ⟨rfl, rfl⟩
    case round =>
      obtain ⟨rfl, rfl⟩ := hrel
      have hd : decide ((1 : Int) < (([] : List En).length : Int)) = false := by decide
      go_wp2_with fail
      go_end0
      exact ⟨rfl, HR.out⟩
  · injection h1 with h1
    subst h1
    refine (en_insertion gb cap L g lb c w eg h hl hp).mono ?_
    rintro e w' ⟨rfl, h1, h2⟩
    refine ⟨rfl, ?_, h2⟩
    exact h1

set_option maxRecDepth 100000 in
set_option maxHeartbeats 1000000 in
theorem en_insNone (A : Option Addr) (cap : Nat) (L : List En) (f : Value) (w : World) :
    Calls Tryz.prog 66 #[.slice A L.length cap, .int .i64 20, .int .i64 20, f] w
      fun e w' => e = .returned (.tuple #[]) ∧ w' = w := by
  go_enter Tryz.func66, Tryz.ntmps66
  go_wp2_with fail
  go_loopw [8] (fun v8 wr => v8 = .int .i64 21 ∧ wr = w) (fun _ _ => 0)
  case atStart => exact ⟨rfl, rfl⟩
  case round =>
    obtain ⟨rfl, rfl⟩ := hrel
    go_wp2_with fail
    go_end0
    exact ⟨rfl, rfl⟩
set_option maxRecDepth 100000 in
set_option maxHeartbeats 1000000 in
theorem en_stable (A : Option Addr) (cap : Nat) (L : List En) (g : Nat) (lb : Array Value) (c : En → En → Int) (w : World) (eg : ∀ args w, (callFunc g args).run Tryz.prog w = .ok (.enter g args) w)
    (h : enOwn w 0 (.slice A L.length cap) L) (hl : L.length ≤ 20) (hp : ∀ wr, w.grownBy wr (Value.slice A L.length cap).ownBlock → enCmp g lb c L wr) :
    Calls Tryz.prog 35 #[.slice A L.length cap, .int .i64 L.length, .func (.func g) #[] lb] w
      fun e w' => e = .returned (.tuple #[]) ∧ enSoA w A cap (isortL (enLt c) L) w' := by
  have hi := en_insAny A cap L g lb c w eg h (by omega) hp
  have h21 : decide ((20 : Int) < (L.length : Int)) = false := by simp; omega
  clear h hp
  by_cases h20e : L.length = 20
  · have hn := fun W => en_insNone A cap L (.func (.func g) #[] lb) W
    rw [h20e] at hi hn h21 ⊢
    rw [show ((20 : Nat) : Int) = 20 from rfl] at hi h21 ⊢
    have HI := Lib.hid hi
    clear hi h20e hl
    go_enter Tryz.func35, Tryz.ntmps35
    go_wp2_with fail
    go_loopw [7, 8] (fun v7 v8 wr => (v7 = .int .i64 0 ∧ v8 = .int .i64 20 ∧ wr = w) ∨ (v7 = .int .i64 20 ∧ v8 = .int .i64 40 ∧ enSoA w A cap (isortL (enLt c) L) wr)) (fun _ v8 _ => (60 - intOf v8).toNat)
    case atStart => exact .inl ⟨rfl, rfl, rfl⟩
    case round =>
      rcases hrel with ⟨rfl, rfl, rfl⟩ | ⟨rfl, rfl, hso⟩
      · go_wp2_with fail
        refine HI.out.mono ?_
        rintro e w2 ⟨rfl, h2⟩
        have H2 := Lib.hid h2
        clear h2
        go_wp2_with fail
        go_roundw
        case rel => exact .inr ⟨rfl, rfl, H2.out⟩
        case measure => simp [intOf]
      · have H2 := Lib.hid hso
        clear hso
        go_wp2_with fail
        refine (hn _).mono ?_
        rintro e w3 ⟨rfl, rfl⟩
        go_wp2_with fail
        obtain ⟨wo, rfl⟩ : ∃ wo : World, wo = w3 := ⟨_, rfl⟩
        go_loopw [6] (fun v6 wr => v6 = .int .i64 20 ∧ wr = wo) (fun _ _ => 0)
        case atStart => exact ⟨rfl, rfl⟩
        case round =>
          obtain ⟨rfl, rfl⟩ := hrel
          go_wp2_with fail
          go_end0
          exact ⟨rfl, H2.out⟩
  · have h20 : decide ((20 : Int) ≤ (L.length : Int)) = false := by simp; omega
    clear h20e
    go_enter Tryz.func35, Tryz.ntmps35
    go_wp2_with fail
    go_loopw [7, 8] (fun v7 v8 wr => v7 = .int .i64 0 ∧ v8 = .int .i64 20 ∧ wr = w) (fun _ _ _ => 0)
    case atStart => exact ⟨rfl, rfl, rfl⟩
    case round =>
      obtain ⟨rfl, rfl, rfl⟩ := hrel
      go_wp2_with fail
      refine hi.mono ?_
      rintro e w2 ⟨rfl, h2⟩
      clear hi
      go_wp2_with fail
      go_loopw [6] (fun v6 wr => v6 = .int .i64 20 ∧ wr = w2) (fun _ _ => 0)
      case atStart => exact ⟨rfl, rfl⟩
      case round =>
        obtain ⟨rfl, rfl⟩ := hrel
        go_wp2_with fail
        go_end0
        exact ⟨rfl, h2⟩
theorem en_sortStable (A : Option Addr) (cap : Nat) (L : List En) (g : Nat) (lb : Array Value) (c : En → En → Int) (w : World) (eg : ∀ args w, (callFunc g args).run Tryz.prog w = .ok (.enter g args) w)
    (h : enOwn w 0 (.slice A L.length cap) L) (hl : L.length ≤ 20) (hp : ∀ wr, w.grownBy wr (Value.slice A L.length cap).ownBlock → enCmp g lb c L wr) :
    Calls Tryz.prog 14 #[.slice A L.length cap, .func (.func g) #[] lb] w
      fun e w' => e = .returned (.tuple #[]) ∧ enSoA w A cap (isortL (enLt c) L) w' := by
  have hi := en_stable A cap L g lb c w eg h hl hp
  clear h hp
  go_enter Tryz.func14, Tryz.ntmps14
  go_wp2_with fail
  refine hi.mono ?_
  rintro e w2 ⟨rfl, h2⟩
  go_wp2_with fail
  go_end0
  exact ⟨rfl, h2⟩

theorem en_eqrun (d : Nat) (r : En) (w : World) : (Op.equalIn (d + 4) 43 (.agg #[.bool r.six, .int .u64 r.hi, .int .u64 r.lo, .int .i64 r.bits, .string r.tgt]) (.agg #[.bool r.six, .int .u64 r.hi, .int .u64 r.lo, .int .i64 r.bits, .string r.tgt])).run Tryz.prog w = .ok true w := by
  have u1 := Tryz.underlying9
  have u2 := Tryz.underlying3
  have hA : Tryz.prog.underlying 43 = some (.struct (Tryz.prog.fieldsOf 43)) := by kernel_rfl
  have pA : Tryz.prog.stoodInHeld 43 = false := by kernel_rfl
  have hx := run_eq_pf d r.six r.six r.hi r.hi r.lo r.lo r.bits r.bits
  rw [run_equalIn_agg w (d + 3) 43 _ _ hA pA]
  simp only [Program.fieldsOf, Tryz.underlying43]
  go_simp
theorem en_guard : Tryz.prog.eqGuardType Tryz.prog.depth 43 = false := by kernel_rfl
set_option maxRecDepth 100000 in
set_option maxHeartbeats 1000000 in
theorem en_equal (A B : Option Addr) (ca cb : Nat) (L : List En) (w : World) (hA : enAt w A L) (hB : enAt w B L) (hl : L.length ≤ 1000000) :
    Calls Tryz.prog 9 #[.slice A L.length ca, .slice B L.length cb] w fun e w' => e = .returned (.bool true) ∧ Below w.heap.size w w' := by
  go_enter Tryz.func9, Tryz.ntmps9
  go_wp2_with fail
  go_loopw [13] (fun v wr => ∃ k : Nat, k ≤ L.length ∧ v = .int .i64 k ∧ Below w.heap.size w wr) (fun v _ => L.length - (intOf v).toNat)
  case atStart => exact ⟨0, Nat.zero_le _, rfl, Below.refl _ _⟩
  case round =>
    obtain ⟨k, hk, rfl, hb⟩ := hrel
    by_cases hlt : k < L.length
    · obtain ⟨g, off, rfl, hgB, hcc⟩ := (hA.below hb) k hlt
      obtain ⟨g2, off2, rfl, hgB2, hcc2⟩ := (hB.below hb) k hlt
      obtain ⟨c0, c1, c2, c3, c4⟩ := en_cells hcc
      obtain ⟨d0, d1, d2, d3, d4⟩ := en_cells hcc2
      generalize L.getD k noEn = x at *
      have hgd := en_guard
      have hrq := fun W => en_eqrun 9996 x W
      have HB := Lib.hid hb
      have hd : decide ((k : Int) < (L.length : Int)) = true := by simp; omega
      clear hcc hcc2 hb hA hB
      go_wp2_with fail
      go_quiet (fail)
      go_wp2_with fail
      go_roundw
      case rel => exact ⟨k + 1, by omega, by go_num, ⟨HB.out.os, HB.out.tape, HB.out.output, HB.out.size, HB.out.block⟩⟩
      case measure => simp [intOf]; omega
    · have : k = L.length := by omega
      subst this
      go_wp2_with fail
      go_ret
      exact ⟨rfl, hb⟩

end Go.Proofs.YtpbcbgoenoolfaaGreatDoor
