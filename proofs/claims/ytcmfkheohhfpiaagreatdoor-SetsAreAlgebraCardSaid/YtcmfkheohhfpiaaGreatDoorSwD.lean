/- Spans of the reference in memory. -/
import Derived.Test.YtcmfkheohhfpiaaGreatDoorRwS
import Derived.Test.YtcmfkheohhfpiaaGreatDoorSwC
import Derived.OwnWalk
import Derived.Deep.RegionHeld3
import Derived.Deep.RegionLaw
import Derived.Deep.Cut
import Derived.Deep.CutRange
import Derived.StillTailTactics
import Derived.Test.YtcmfkheohhfpiaaGreatDoorShelf
import Derived.Test.YtcmfkheohhfpiaaGreatDoorRgX
import Derived.Test.YtcmfkheohhfpiaaGreatDoorRgE
namespace Go.Proofs.YtcmfkheohhfpiaaGreatDoor
open Go.RowKit Go.Hw

def spC (e : Rg) : List Value := [.int .i64 (wd e.six e.hi e.lo 0), .int .i64 (wd e.six e.hi e.lo 1), .int .i64 (wd e.six e.hi e.lo 2), .int .i64 (wd e.six e.hi e.lo 3), .int .i64 (wd e.six e.hi e.lo 4), .int .i64 (wd e.six e.hi e.lo 5), .int .i64 (wd e.six e.hi e.lo 6), .int .i64 (wd e.six e.hi e.lo 7), .int .i64 (wd e.six e.hi e.lo 8), .int .i64 (wd e.six2 e.hi2 e.lo2 0), .int .i64 (wd e.six2 e.hi2 e.lo2 1), .int .i64 (wd e.six2 e.hi2 e.lo2 2), .int .i64 (wd e.six2 e.hi2 e.lo2 3), .int .i64 (wd e.six2 e.hi2 e.lo2 4), .int .i64 (wd e.six2 e.hi2 e.lo2 5), .int .i64 (wd e.six2 e.hi2 e.lo2 6), .int .i64 (wd e.six2 e.hi2 e.lo2 7), .int .i64 (wd e.six2 e.hi2 e.lo2 8)]
theorem spC_len (e : Rg) : (spC e).length = 18 := rfl
abbrev spAt (w : World) (A : Option Addr) (L : List Rg) : Prop := RwAt spC 18 noRg w A L
abbrev spOwn (w : World) (base : Nat) (v : Value) (L : List Rg) : Prop := w.ownsRow base 157 18 v L.length (rwC spC L)
theorem sp_cells {w : World} {g o : Nat} {e : Rg} (h : RwCells w g o (spC e)) : w.cell? ⟨g, o, none⟩ = some (.int .i64 (wd e.six e.hi e.lo 0)) ∧ w.cell? ⟨g, o + 1, none⟩ = some (.int .i64 (wd e.six e.hi e.lo 1)) ∧ w.cell? ⟨g, o + 2, none⟩ = some (.int .i64 (wd e.six e.hi e.lo 2)) ∧ w.cell? ⟨g, o + 3, none⟩ = some (.int .i64 (wd e.six e.hi e.lo 3)) ∧ w.cell? ⟨g, o + 4, none⟩ = some (.int .i64 (wd e.six e.hi e.lo 4)) ∧ w.cell? ⟨g, o + 5, none⟩ = some (.int .i64 (wd e.six e.hi e.lo 5)) ∧ w.cell? ⟨g, o + 6, none⟩ = some (.int .i64 (wd e.six e.hi e.lo 6)) ∧ w.cell? ⟨g, o + 7, none⟩ = some (.int .i64 (wd e.six e.hi e.lo 7)) ∧ w.cell? ⟨g, o + 8, none⟩ = some (.int .i64 (wd e.six e.hi e.lo 8)) ∧ w.cell? ⟨g, o + 9, none⟩ = some (.int .i64 (wd e.six2 e.hi2 e.lo2 0)) ∧ w.cell? ⟨g, o + 10, none⟩ = some (.int .i64 (wd e.six2 e.hi2 e.lo2 1)) ∧ w.cell? ⟨g, o + 11, none⟩ = some (.int .i64 (wd e.six2 e.hi2 e.lo2 2)) ∧ w.cell? ⟨g, o + 12, none⟩ = some (.int .i64 (wd e.six2 e.hi2 e.lo2 3)) ∧ w.cell? ⟨g, o + 13, none⟩ = some (.int .i64 (wd e.six2 e.hi2 e.lo2 4)) ∧ w.cell? ⟨g, o + 14, none⟩ = some (.int .i64 (wd e.six2 e.hi2 e.lo2 5)) ∧ w.cell? ⟨g, o + 15, none⟩ = some (.int .i64 (wd e.six2 e.hi2 e.lo2 6)) ∧ w.cell? ⟨g, o + 16, none⟩ = some (.int .i64 (wd e.six2 e.hi2 e.lo2 7)) ∧ w.cell? ⟨g, o + 17, none⟩ = some (.int .i64 (wd e.six2 e.hi2 e.lo2 8)) := ⟨h 0 _ rfl, h 1 _ rfl, h 2 _ rfl, h 3 _ rfl, h 4 _ rfl, h 5 _ rfl, h 6 _ rfl, h 7 _ rfl, h 8 _ rfl, h 9 _ rfl, h 10 _ rfl, h 11 _ rfl, h 12 _ rfl, h 13 _ rfl, h 14 _ rfl, h 15 _ rfl, h 16 _ rfl, h 17 _ rfl⟩

/-- What is asked of a closure over these structs. -/
def spPred (g : Nat) (lb : Array Value) (p : Rg → Bool) (L : List Rg) (w : World) : Prop :=
  ∀ (W : World) (e : Rg), e ∈ L → Below w.heap.size w W → Calls Tryz.prog g (#[.agg #[.int .i64 (wd e.six e.hi e.lo 0), .int .i64 (wd e.six e.hi e.lo 1), .int .i64 (wd e.six e.hi e.lo 2), .int .i64 (wd e.six e.hi e.lo 3), .int .i64 (wd e.six e.hi e.lo 4), .int .i64 (wd e.six e.hi e.lo 5), .int .i64 (wd e.six e.hi e.lo 6), .int .i64 (wd e.six e.hi e.lo 7), .int .i64 (wd e.six e.hi e.lo 8), .int .i64 (wd e.six2 e.hi2 e.lo2 0), .int .i64 (wd e.six2 e.hi2 e.lo2 1), .int .i64 (wd e.six2 e.hi2 e.lo2 2), .int .i64 (wd e.six2 e.hi2 e.lo2 3), .int .i64 (wd e.six2 e.hi2 e.lo2 4), .int .i64 (wd e.six2 e.hi2 e.lo2 5), .int .i64 (wd e.six2 e.hi2 e.lo2 6), .int .i64 (wd e.six2 e.hi2 e.lo2 7), .int .i64 (wd e.six2 e.hi2 e.lo2 8)]] ++ lb) W fun en w' => en = .returned (.bool (p e)) ∧ Below W.heap.size W w'

theorem sp_info : (Tryz.prog.info? 157).map (fun i => (i.zero, i.size, i.bytes)) = some (some (.agg #[.int .i64 0, .int .i64 0, .int .i64 0, .int .i64 0, .int .i64 0, .int .i64 0, .int .i64 0, .int .i64 0, .int .i64 0, .int .i64 0, .int .i64 0, .int .i64 0, .int .i64 0, .int .i64 0, .int .i64 0, .int .i64 0, .int .i64 0, .int .i64 0]), 18, 144) := by kernel_rfl
theorem spC_one (e : Rg) : ∀ u ∈ spC e, u.oneCell' = true := by
  intro u hu
  simp only [spC, List.mem_cons, List.not_mem_nil, or_false] at hu
  rcases hu with rfl | rfl | rfl | rfl | rfl | rfl | rfl | rfl | rfl | rfl | rfl | rfl | rfl | rfl | rfl | rfl | rfl | rfl <;> rfl
theorem sps_one (L : List Rg) : ∀ u ∈ rwC spC L, u.oneCell' = true := by
  intro u hu
  obtain ⟨x, _, hx⟩ := List.mem_flatMap.1 hu
  exact spC_one x u hx
/-- Cells of a row, one after the other. -/
theorem sp_flat {w : World} {b off : Nat} {L : List Rg} (h : spAt w (some ⟨b, off, none⟩) L) (j : Nat) (u : Value) (hu : (rwC spC L)[j]? = some u) : w.cell? ⟨b, off + j, none⟩ = some u := by
  have hj := (List.getElem?_eq_some_iff.1 hu).1
  rw [rwC_length spC_len] at hj
  have hi : j / 18 < L.length := by omega
  obtain ⟨g, off', e, _, hc⟩ := h (j / 18) hi
  injection e with e
  simp only [Addr.mk.injEq, and_true] at e
  obtain ⟨rfl, rfl⟩ := e
  have hm : j = j / 18 * 18 + j % 18 := by omega
  rw [hm, rwC_at (d := noRg) spC_len L _ _ hi (by omega)] at hu
  have := hc (j % 18) u hu
  rwa [Nat.add_assoc, ← hm] at this

set_option maxHeartbeats 2000000 in
set_option maxRecDepth 100000 in
/-- slices.Clone of a row. -/
theorem sp_clone (A : Option Addr) (cap : Nat) (L : List Rg) (w : World) (h : spAt w A L) (h0 : A = none → L = []) (hl : L.length ≤ 1000000) :
    Calls Tryz.prog 147 #[.slice A L.length cap] w fun e w' => ∃ v, e = .returned v ∧ spOwn w' w.heap.size v L ∧ Below w.heap.size w w' := by
  rcases A with _ | ⟨b, off, sp⟩
  · obtain rfl := h0 rfl
    have hq : ∀ (w : World) (n : Nat), (binOp .eql 102 (.slice none n cap) (.slice none 0 0)).run Tryz.prog w = .ok (.bool true) w := fun w n => Lib.run_eql_slice_nil w _ _ none n cap 0 0 Tryz.underlying102
    go_enter Tryz.func147, Tryz.ntmps147
    go_wp2_with fail
    go_ret
    exact ⟨_, rfl, World.ownsRow_nil _ _ _ _, Below.refl _ _⟩
  · obtain ⟨i0, hi, hz0, hz1, hz2⟩ := info_parts sp_info
    have hsp : sp = none ∨ L = [] := by
      rcases Nat.eq_zero_or_pos L.length with h1 | h1
      · exact .inr (List.length_eq_zero_iff.1 h1)
      · obtain ⟨g, off', e, _⟩ := h 0 h1
        injection e with e
        injection e with _ _ e
        exact .inl e
    have hq : ∀ (w : World), (binOp .eql 102 (.slice (some ⟨b, off, sp⟩) L.length cap) (.slice none 0 0)).run Tryz.prog w = .ok (.bool false) w := fun w => Lib.run_eql_slice_nil w _ _ _ _ _ 0 0 Tryz.underlying102
    have hc : ∀ j u, (rwC spC L)[j]? = some u → w.cell? ((⟨b, off, sp⟩ : Addr).add j) = some u := by
      intro j u hu
      rcases hsp with rfl | rfl
      · rw [Addr.add_lit]
        exact sp_flat h j u hu
      · simp [rwC] at hu
    have H := Lib.hid hc
    have hz : (rwC spC L).length = L.length * 18 := rwC_length spC_len L
    have ho := sps_one L
    clear h hc
    generalize hcs : rwC spC L = cs at *
    go_enter Tryz.func147, Tryz.ntmps147
    go_wp2_with (at_builtin; refine wpList_append_own _ rfl _ _ 102 rfl w.heap.size 157 i0 (.agg #[.int .i64 0, .int .i64 0, .int .i64 0, .int .i64 0, .int .i64 0, .int .i64 0, .int .i64 0, .int .i64 0, .int .i64 0, .int .i64 0, .int .i64 0, .int .i64 0, .int .i64 0, .int .i64 0, .int .i64 0, .int .i64 0, .int .i64 0, .int .i64 0]) 18 144 Tryz.underlying102 hi hz0 hz1 hz2 rfl (by decide) _ _ _ rfl (World.ownsRow_made w #[] 0 (Nat.le_refl _) (Nat.zero_le _) rfl) ⟨b, off, sp⟩ L.length cap cs rfl ?qc1 ?qc2 ?qc3 ?qc4 ?qc5 ?qc6 ?_)
    case qc1 => exact hz
    case qc2 => exact fun j u hu => Lib.cell?_alloc_some _ (H.out j u hu)
    case qc3 => exact ho
    case qc4 => unfold maxLen; omega
    case qc5 => omega
    case qc6 => simp
    intro v' w1 hown hgrow hnil
    go_wp2_with fail
    go_ret
    refine ⟨v', rfl, by unfold spOwn; rw [hcs]; simpa using hown, ?_⟩
    exact ((Below.refl _ w).alloc (Nat.le_refl _) _).grown hgrow (by simp) (by intro k hk; simp [Value.ownBlock] at hk; omega)

/-- What is asked of a comparison. -/
def spCmp (g : Nat) (lb : Array Value) (c : Rg → Rg → Int) (L : List Rg) (w : World) : Prop :=
  ∀ (W : World) (x y : Rg), x ∈ L → y ∈ L → Below w.heap.size w W → Calls Tryz.prog g (#[.agg #[.int .i64 (wd x.six x.hi x.lo 0), .int .i64 (wd x.six x.hi x.lo 1), .int .i64 (wd x.six x.hi x.lo 2), .int .i64 (wd x.six x.hi x.lo 3), .int .i64 (wd x.six x.hi x.lo 4), .int .i64 (wd x.six x.hi x.lo 5), .int .i64 (wd x.six x.hi x.lo 6), .int .i64 (wd x.six x.hi x.lo 7), .int .i64 (wd x.six x.hi x.lo 8), .int .i64 (wd x.six2 x.hi2 x.lo2 0), .int .i64 (wd x.six2 x.hi2 x.lo2 1), .int .i64 (wd x.six2 x.hi2 x.lo2 2), .int .i64 (wd x.six2 x.hi2 x.lo2 3), .int .i64 (wd x.six2 x.hi2 x.lo2 4), .int .i64 (wd x.six2 x.hi2 x.lo2 5), .int .i64 (wd x.six2 x.hi2 x.lo2 6), .int .i64 (wd x.six2 x.hi2 x.lo2 7), .int .i64 (wd x.six2 x.hi2 x.lo2 8)], .agg #[.int .i64 (wd y.six y.hi y.lo 0), .int .i64 (wd y.six y.hi y.lo 1), .int .i64 (wd y.six y.hi y.lo 2), .int .i64 (wd y.six y.hi y.lo 3), .int .i64 (wd y.six y.hi y.lo 4), .int .i64 (wd y.six y.hi y.lo 5), .int .i64 (wd y.six y.hi y.lo 6), .int .i64 (wd y.six y.hi y.lo 7), .int .i64 (wd y.six y.hi y.lo 8), .int .i64 (wd y.six2 y.hi2 y.lo2 0), .int .i64 (wd y.six2 y.hi2 y.lo2 1), .int .i64 (wd y.six2 y.hi2 y.lo2 2), .int .i64 (wd y.six2 y.hi2 y.lo2 3), .int .i64 (wd y.six2 y.hi2 y.lo2 4), .int .i64 (wd y.six2 y.hi2 y.lo2 5), .int .i64 (wd y.six2 y.hi2 y.lo2 6), .int .i64 (wd y.six2 y.hi2 y.lo2 7), .int .i64 (wd y.six2 y.hi2 y.lo2 8)]] ++ lb) W fun en w' => en = .returned (.int .i64 (c x y)) ∧ Below W.heap.size W w'
def spLt (c : Rg → Rg → Int) (x y : Rg) : Bool := decide (c x y < 0)
/-- The row, at each moment of the sort. -/
def spSo (w : World) (g cap : Nat) (M : List Rg) (wr : World) : Prop := w.grownBy wr (some g) ∧ spOwn wr 0 (.slice (some ⟨g, 0, none⟩) M.length cap) M
theorem spSo.drewN {w wr : World} {g cap : Nat} {M : List Rg} (h : spSo w g cap M wr) (n : Nat) : spSo w g cap M (wr.drewN n) := ⟨⟨h.1.os, h.1.tape, h.1.output, h.1.size, h.1.block⟩, rw_same h.2 fun _ _ => rfl⟩
theorem spSo.drew {w wr : World} {g cap : Nat} {M : List Rg} (h : spSo w g cap M wr) : spSo w g cap M wr.drew := ⟨⟨h.1.os, h.1.tape, h.1.output, h.1.size, h.1.block⟩, rw_same h.2 fun _ _ => rfl⟩
theorem spSo.below {w wr wq : World} {g cap : Nat} {M : List Rg} (h : spSo w g cap M wr) (hb : Below wr.heap.size wr wq) : spSo w g cap M wq := ⟨h.1.andThen (grownB hb _) (fun _ h => .inr h), rw_same h.2 fun k hk => hb.block k (h.2.lt k hk).2⟩
theorem spSo.cells {w wr : World} {g cap : Nat} {M : List Rg} (h : spSo w g cap M wr) {i : Nat} (hi : i < M.length) {x : Rg} (hx : M.getD i noRg = x) : RwCells wr g (i * 18) (spC x) := by
  obtain ⟨g5, off, e1, _, hc⟩ := rw_at' (d := noRg) spC_len h.2 i hi
  injection e1 with e1
  simp only [Addr.mk.injEq, and_true] at e1
  obtain ⟨rfl, rfl⟩ := e1
  rwa [hx, Nat.zero_add] at hc

set_option maxRecDepth 100000 in
set_option maxHeartbeats 2000000 in
theorem sp_insertion (gb cap : Nat) (L : List Rg) (g : Nat) (lb : Array Value) (c : Rg → Rg → Int) (w : World) (eg : ∀ args w, (callFunc g args).run Tryz.prog w = .ok (.enter g args) w)
    (h : spOwn w 0 (.slice (some ⟨gb, 0, none⟩) L.length cap) L) (hl : L.length ≤ 1000000) (hp : ∀ wr, w.grownBy wr (some gb) → spCmp g lb c L wr) :
    Calls Tryz.prog 268 #[.slice (some ⟨gb, 0, none⟩) L.length cap, .int .i64 0, .int .i64 L.length, .func (.func g) #[] lb] w
      fun e w' => e = .returned (.tuple #[]) ∧ spSo w gb cap (isortL (spLt c) L) w' := by
  have H0 : Hid (spSo w gb cap (isortL (spLt c) (L.take 1) ++ L.drop 1) w) := Lib.hid (by
    have e : isortL (spLt c) (L.take 1) ++ L.drop 1 = L := by
      cases L with
      | nil => rfl
      | cons x L => rfl
    rw [e]
    exact ⟨World.grownBy.refl _ _, h⟩)
  have HP := Lib.hid hp
  clear h hp
  go_enter Tryz.func268, Tryz.ntmps268
  go_wp2_with fail
  go_loopw [8] (fun v8 wr => ∃ i : Nat, v8 = .int .i64 i ∧ 1 ≤ i ∧ (i ≤ L.length ∨ i = 1) ∧ spSo w gb cap (isortL (spLt c) (L.take i) ++ L.drop i) wr) (fun v8 _ => L.length - (intOf v8).toNat)
  case atStart => exact ⟨1, rfl, by omega, .inr rfl, H0.out⟩
  case round =>
    obtain ⟨i, rfl, hi1, hi2, hit⟩ := hrel
    by_cases hlt : i < L.length
    · clear H0
      generalize hS : isortL (spLt c) (L.take i) = S at hit
      have hSl : S.length = i := by rw [← hS, isortL_length, List.length_take]; omega
      have hSm : ∀ z ∈ S, z ∈ L := fun z hz => by rw [← hS] at hz; exact List.mem_of_mem_take (isortL_mem.1 hz)
      have hxL : L.getD i noRg ∈ L := rw_mem hlt
      rw [drop_cons' noRg hlt] at hit
      generalize hx : L.getD i noRg = x at *
      generalize hR : L.drop (i + 1) = R at *
      have hRl : i + 1 + R.length = L.length := by rw [← hR, List.length_drop]; omega
      have HS := Lib.hid hS
      have HX := Lib.hid hx
      have HR := Lib.hid hR
      have HSM := Lib.hid hSm
      have HIT := Lib.hid hit
      clear hS hx hR hSm hit
      go_wp2_with fail
      go_loopw [9] (fun v9 wq => ∃ A B : List Rg, S = A ++ B ∧ (∀ z ∈ B, spLt c x z = true) ∧ v9 = .int .i64 A.length ∧ spSo w gb cap (A ++ x :: (B ++ R)) wq) (fun v9 _ => (intOf v9).toNat)
      case atStart => exact ⟨S, [], by simp, fun z hz => by simp at hz, by rw [hSl], by simpa using HIT.out⟩
      case round =>
        obtain ⟨A, B, hAB, hB, rfl, hso⟩ := hrel
        have hAl : A.length + B.length = i := by rw [← hSl, hAB, List.length_append]
        have hMl : (A ++ x :: (B ++ R)).length = L.length := by simp; omega
        have hdone : (∀ y, A.getLast? = some y → spLt c x y = false) → isortL (spLt c) (L.take (i + 1)) ++ L.drop (i + 1) = A ++ x :: (B ++ R) := fun hA => by
          rw [take_succ' noRg hlt, HX.out, HR.out, isortL_snoc, HS.out, hAB, ins_at hB hA]
          simp
        have HD := Lib.hid hdone
        have HSO := Lib.hid hso
        have HAB := Lib.hid hAB
        have HB := Lib.hid hB
        clear hdone hso hAB hB HIT
        rcases List.eq_nil_or_concat A with hA | ⟨A', y, hA⟩
        · subst hA
          have hg0 : decide ((([] : List Rg).length : Int) > 0) = false := by simp
          go_wp2_with fail
          go_quiet (fail)
          go_wp2_with fail
          go_roundw
          case rel => exact ⟨i + 1, by go_num, by omega, by omega, by rw [HD.out (fun y hy => by simp at hy)]; exact HSO.out.drewN _⟩
          case measure => simp [intOf]; omega
        · rw [List.concat_eq_append] at hA
          subst hA
          have hMe : A' ++ [y] ++ x :: (B ++ R) = A' ++ y :: x :: (B ++ R) := by simp
          have hyL : y ∈ L := HSM.out y (by rw [HAB.out]; simp)
          have hlen : (A' ++ [y]).length = A'.length + 1 := by simp
          have HCY : Hid (RwCells wr gb (A'.length * 18) (spC y)) := Lib.hid (HSO.out.cells (i := A'.length) (x := y) (by simp) (by rw [hMe]; exact at_here _ _ _ _))
          have HCX : Hid (RwCells wr gb ((A'.length + 1) * 18) (spC x)) := Lib.hid (HSO.out.cells (i := A'.length + 1) (x := x) (by simp) (by rw [← hlen]; exact at_here _ _ _ _))
          have hgl : gb < wr.heap.size := (HSO.out.2.lt gb rfl).2
          have hlen2 : A'.length + 1 < L.length := by rw [← hMl]; simp
          have HC := Lib.hid (fun W (hb : Below wr.heap.size wr W) => HP.out wr HSO.out.1 W x y hxL hyL hb)
          rw [hlen]
          have HLEN := Lib.hid hlen
          have HML := Lib.hid hMl
          have HAL := Lib.hid hAl
          have HME := Lib.hid hMe
          clear hlen hMl hAl hMe
          generalize hal : A'.length = a at *
          have HALN := Lib.hid hal
          clear hal
          have s1 : ((a : Int) + 1).toNat = a + 1 := by omega
          have s2 : (a : Int) + 1 < (L.length : Int) := by omega
          have s3 : (a : Int) < (L.length : Int) := by omega
          have s4 : 0 ≤ (a : Int) + 1 := by omega
          have s5 : IntKind.i64.wrap ((a : Int) + 1 - 1) = (a : Int) := by rw [show (a : Int) + 1 - 1 = a by omega]; exact IntWalk.i64_in _ (by omega)
          have s7 : IntKind.i64.wrap (a : Int) = (a : Int) := IntWalk.i64_in _ (by omega)
          have s8 : 0 ≤ (a : Int) := by omega
          have s6 : decide ((a : Int) + 1 > 0) = true := decide_eq_true (by omega)
          rw [show ((a + 1 : Nat) : Int) = (a : Int) + 1 from by omega]
          go_upto_region 4 with (fail)
          go_cut [34] from 18 to 33 (fun v34 wx => v34 = .bool (spLt c x y) ∧ Below wr.heap.size wr wx)
          case first =>
            refine wp_region_exact 16 (fun f' => ⟨#[.slice (some ⟨gb, 0, none⟩) L.length cap, .int .i64 0, .int .i64 L.length, .func (Fn.func g) #[] lb, undef, undef, undef, undef, .int .i64 i, .int .i64 ((a : Int) + 1), .int .i64 0, .int .i64 1, .int .i64 i, .int .i64 L.length, .bool true, u15, u16, .int .i64 i, f' 0, f' 1, f' 2, f' 3, f' 4, f' 5, f' 6, f' 7, f' 8, f' 9, f' 10, f' 11, f' 12, f' 13, f' 14, f' 15, u34, u35, u36, u37, u38, u39, u40, u41, u42, u43, u44, u45, u46, u47, u48, u49, u50, u51, u52], []⟩) (fun i => match i with | 0 => .int .i64 ((a : Int) + 1) | 1 => .int .i64 0 | 2 => .bool true | 3 => .bool true | 4 => .func (Fn.func g) #[] lb | 5 => .slice (some ⟨gb, 0, none⟩) L.length cap | 6 => .int .i64 ((a : Int) + 1) | 7 => .pointer (some ⟨gb, (a + 1) * 18, none⟩) | 8 => .agg #[.int .i64 (wd x.six x.hi x.lo 0), .int .i64 (wd x.six x.hi x.lo 1), .int .i64 (wd x.six x.hi x.lo 2), .int .i64 (wd x.six x.hi x.lo 3), .int .i64 (wd x.six x.hi x.lo 4), .int .i64 (wd x.six x.hi x.lo 5), .int .i64 (wd x.six x.hi x.lo 6), .int .i64 (wd x.six x.hi x.lo 7), .int .i64 (wd x.six x.hi x.lo 8), .int .i64 (wd x.six2 x.hi2 x.lo2 0), .int .i64 (wd x.six2 x.hi2 x.lo2 1), .int .i64 (wd x.six2 x.hi2 x.lo2 2), .int .i64 (wd x.six2 x.hi2 x.lo2 3), .int .i64 (wd x.six2 x.hi2 x.lo2 4), .int .i64 (wd x.six2 x.hi2 x.lo2 5), .int .i64 (wd x.six2 x.hi2 x.lo2 6), .int .i64 (wd x.six2 x.hi2 x.lo2 7), .int .i64 (wd x.six2 x.hi2 x.lo2 8)] | 9 => .slice (some ⟨gb, 0, none⟩) L.length cap | 10 => .int .i64 ((a : Int) + 1) | 11 => .int .i64 (a : Int) | 12 => .pointer (some ⟨gb, a * 18, none⟩) | 13 => .agg #[.int .i64 (wd y.six y.hi y.lo 0), .int .i64 (wd y.six y.hi y.lo 1), .int .i64 (wd y.six y.hi y.lo 2), .int .i64 (wd y.six y.hi y.lo 3), .int .i64 (wd y.six y.hi y.lo 4), .int .i64 (wd y.six y.hi y.lo 5), .int .i64 (wd y.six y.hi y.lo 6), .int .i64 (wd y.six y.hi y.lo 7), .int .i64 (wd y.six y.hi y.lo 8), .int .i64 (wd y.six2 y.hi2 y.lo2 0), .int .i64 (wd y.six2 y.hi2 y.lo2 1), .int .i64 (wd y.six2 y.hi2 y.lo2 2), .int .i64 (wd y.six2 y.hi2 y.lo2 3), .int .i64 (wd y.six2 y.hi2 y.lo2 4), .int .i64 (wd y.six2 y.hi2 y.lo2 5), .int .i64 (wd y.six2 y.hi2 y.lo2 6), .int .i64 (wd y.six2 y.hi2 y.lo2 7), .int .i64 (wd y.six2 y.hi2 y.lo2 8)] | 14 => .int .i64 (c x y) | 15 => .bool (spLt c x y) | _ => undef) (fun lb' w' => Hid (Below wr.heap.size wr w')) (fun i => match i with | 0 => u18 | 1 => u19 | 2 => u20 | 3 => u21 | 4 => u22 | 5 => u23 | 6 => u24 | 7 => u25 | 8 => u26 | 9 => u27 | 10 => u28 | 11 => u29 | 12 => u30 | 13 => u31 | 14 => u32 | 15 => u33 | _ => undef) 10 (show Tryz.prog.follows .mixedOrders = true from by kernel_rfl) (by kernel_rfl) ?_ ?_ (Lib.hid (Below.refl _ _).drew)
            · intro i op hi ho lb' f' w' hl hS hd
              have hcase : i = 0 ∨ i = 1 ∨ i = 2 ∨ i = 3 ∨ i = 4 ∨ i = 5 ∨ i = 6 ∨ i = 7 ∨ i = 8 ∨ i = 9 ∨ i = 10 ∨ i = 11 ∨ i = 12 ∨ i = 13 ∨ i = 14 ∨ i = 15 := by omega
              rcases hcase with rfl | rfl | rfl | rfl | rfl | rfl | rfl | rfl | rfl | rfl | rfl | rfl | rfl | rfl | rfl | rfl <;> (replace ho := Option.some.inj ho; subst ho)
              · refine OpStep.of rfl ?_
                unfold Oper.wp
                go_simp
                first | exact ⟨by first | (simp [upd]; done) | (simp [upd]; omega), hS⟩ | (simp [upd]; done) | (simp [upd]; omega)
              · refine OpStep.of rfl ?_
                unfold Oper.wp
                go_simp
                first | exact ⟨by first | (simp [upd]; done) | (simp [upd]; omega), hS⟩ | (simp [upd]; done) | (simp [upd]; omega)
              · have e0 : f' 0 = .int .i64 ((a : Int) + 1) := (hd ⟨0, .data⟩ (by simp) rfl).2
                have e1 : f' 1 = .int .i64 0 := (hd ⟨1, .data⟩ (by simp) rfl).2
                refine OpStep.of rfl ?_
                unfold Oper.wp
                go_simp
                first | exact ⟨by first | (simp [upd, e0, e1]; done) | (simp [upd, e0, e1]; omega), hS⟩ | (simp [upd, e0, e1]; done) | (simp [upd, e0, e1]; omega)
              · have e2 : f' 2 = .bool true := (hd ⟨2, .data⟩ (by simp) rfl).2
                refine OpStep.of rfl ?_
                unfold Oper.wp
                go_simp
                first | exact ⟨by first | (simp [upd, e2]; done) | (simp [upd, e2]; omega), hS⟩ | (simp [upd, e2]; done) | (simp [upd, e2]; omega)
              · refine OpStep.of (by have e3 : f' 3 = .bool true := (hd ⟨3, .guard⟩ (by simp) rfl).2; simp [Region.wanted, yielded, e3]) ?_
                unfold Oper.wp
                go_simp
                first | exact ⟨by first | (simp [upd]; done) | (simp [upd]; omega), hS⟩ | (simp [upd]; done) | (simp [upd]; omega)
              · refine OpStep.of (by have e3 : f' 3 = .bool true := (hd ⟨3, .guard⟩ (by simp) rfl).2; simp [Region.wanted, yielded, e3]) ?_
                unfold Oper.wp
                go_simp
                first | exact ⟨by first | (simp [upd]; done) | (simp [upd]; omega), hS⟩ | (simp [upd]; done) | (simp [upd]; omega)
              · refine OpStep.of (by have e3 : f' 3 = .bool true := (hd ⟨3, .guard⟩ (by simp) rfl).2; simp [Region.wanted, yielded, e3]) ?_
                unfold Oper.wp
                go_simp
                first | exact ⟨by first | (simp [upd]; done) | (simp [upd]; omega), hS⟩ | (simp [upd]; done) | (simp [upd]; omega)
              · have e5 : f' 5 = .slice (some ⟨gb, 0, none⟩) L.length cap := (hd ⟨5, .data⟩ (by simp) rfl).2
                have e6 : f' 6 = .int .i64 ((a : Int) + 1) := (hd ⟨6, .data⟩ (by simp) rfl).2
                refine OpStep.of (by have e3 : f' 3 = .bool true := (hd ⟨3, .guard⟩ (by simp) rfl).2; simp [Region.wanted, yielded, e3]) ?_
                unfold Oper.wp
                go_simp
                first | exact ⟨by first | (simp [upd, e5, e6]; done) | (simp [upd, e5, e6]; omega), hS⟩ | (simp [upd, e5, e6]; done) | (simp [upd, e5, e6]; omega)
              · have e7 : f' 7 = .pointer (some ⟨gb, (a + 1) * 18, none⟩) := (hd ⟨7, .data⟩ (by simp) rfl).2
                refine OpStep.of (by have e3 : f' 3 = .bool true := (hd ⟨3, .guard⟩ (by simp) rfl).2; simp [Region.wanted, yielded, e3]) ?_
                have e7 : f' 7 = .pointer (some ⟨gb, (a + 1) * 18, none⟩) := (hd ⟨7, .data⟩ (by simp) rfl).2
                refine load_stepR e7 (HCX.out.keep (fun p hp => World.cell?_of_block (hS.out.block p.block (by rw [hp]; exact hgl)))) (by kernel_rfl) rfl (by kernel_rfl) ?_
                exact ⟨rfl, hS⟩
              · refine OpStep.of (by have e3 : f' 3 = .bool true := (hd ⟨3, .guard⟩ (by simp) rfl).2; simp [Region.wanted, yielded, e3]) ?_
                unfold Oper.wp
                go_simp
                first | exact ⟨by first | (simp [upd]; done) | (simp [upd]; omega), hS⟩ | (simp [upd]; done) | (simp [upd]; omega)
              · refine OpStep.of (by have e3 : f' 3 = .bool true := (hd ⟨3, .guard⟩ (by simp) rfl).2; simp [Region.wanted, yielded, e3]) ?_
                unfold Oper.wp
                go_simp
                first | exact ⟨by first | (simp [upd]; done) | (simp [upd]; omega), hS⟩ | (simp [upd]; done) | (simp [upd]; omega)
              · have e10 : f' 10 = .int .i64 ((a : Int) + 1) := (hd ⟨10, .data⟩ (by simp) rfl).2
                refine OpStep.of (by have e3 : f' 3 = .bool true := (hd ⟨3, .guard⟩ (by simp) rfl).2; simp [Region.wanted, yielded, e3]) ?_
                unfold Oper.wp
                go_simp
                first | exact ⟨by first | (simp [upd, e10]; done) | (simp [upd, e10]; omega), hS⟩ | (simp [upd, e10]; done) | (simp [upd, e10]; omega)
              · have e9 : f' 9 = .slice (some ⟨gb, 0, none⟩) L.length cap := (hd ⟨9, .data⟩ (by simp) rfl).2
                have e11 : f' 11 = .int .i64 (a : Int) := (hd ⟨11, .data⟩ (by simp) rfl).2
                refine OpStep.of (by have e3 : f' 3 = .bool true := (hd ⟨3, .guard⟩ (by simp) rfl).2; simp [Region.wanted, yielded, e3]) ?_
                unfold Oper.wp
                go_simp
                first | exact ⟨by first | (simp [upd, e9, e11]; done) | (simp [upd, e9, e11]; omega), hS⟩ | (simp [upd, e9, e11]; done) | (simp [upd, e9, e11]; omega)
              · have e12 : f' 12 = .pointer (some ⟨gb, a * 18, none⟩) := (hd ⟨12, .data⟩ (by simp) rfl).2
                refine OpStep.of (by have e3 : f' 3 = .bool true := (hd ⟨3, .guard⟩ (by simp) rfl).2; simp [Region.wanted, yielded, e3]) ?_
                have e12 : f' 12 = .pointer (some ⟨gb, a * 18, none⟩) := (hd ⟨12, .data⟩ (by simp) rfl).2
                refine load_stepR e12 (HCY.out.keep (fun p hp => World.cell?_of_block (hS.out.block p.block (by rw [hp]; exact hgl)))) (by kernel_rfl) rfl (by kernel_rfl) ?_
                exact ⟨rfl, hS⟩
              · have e4 : f' 4 = .func (Fn.func g) #[] lb := (hd ⟨4, .data⟩ (by simp) rfl).2
                have e8 : f' 8 = .agg #[.int .i64 (wd x.six x.hi x.lo 0), .int .i64 (wd x.six x.hi x.lo 1), .int .i64 (wd x.six x.hi x.lo 2), .int .i64 (wd x.six x.hi x.lo 3), .int .i64 (wd x.six x.hi x.lo 4), .int .i64 (wd x.six x.hi x.lo 5), .int .i64 (wd x.six x.hi x.lo 6), .int .i64 (wd x.six x.hi x.lo 7), .int .i64 (wd x.six x.hi x.lo 8), .int .i64 (wd x.six2 x.hi2 x.lo2 0), .int .i64 (wd x.six2 x.hi2 x.lo2 1), .int .i64 (wd x.six2 x.hi2 x.lo2 2), .int .i64 (wd x.six2 x.hi2 x.lo2 3), .int .i64 (wd x.six2 x.hi2 x.lo2 4), .int .i64 (wd x.six2 x.hi2 x.lo2 5), .int .i64 (wd x.six2 x.hi2 x.lo2 6), .int .i64 (wd x.six2 x.hi2 x.lo2 7), .int .i64 (wd x.six2 x.hi2 x.lo2 8)] := (hd ⟨8, .data⟩ (by simp) rfl).2
                have e13 : f' 13 = .agg #[.int .i64 (wd y.six y.hi y.lo 0), .int .i64 (wd y.six y.hi y.lo 1), .int .i64 (wd y.six y.hi y.lo 2), .int .i64 (wd y.six y.hi y.lo 3), .int .i64 (wd y.six y.hi y.lo 4), .int .i64 (wd y.six y.hi y.lo 5), .int .i64 (wd y.six y.hi y.lo 6), .int .i64 (wd y.six y.hi y.lo 7), .int .i64 (wd y.six y.hi y.lo 8), .int .i64 (wd y.six2 y.hi2 y.lo2 0), .int .i64 (wd y.six2 y.hi2 y.lo2 1), .int .i64 (wd y.six2 y.hi2 y.lo2 2), .int .i64 (wd y.six2 y.hi2 y.lo2 3), .int .i64 (wd y.six2 y.hi2 y.lo2 4), .int .i64 (wd y.six2 y.hi2 y.lo2 5), .int .i64 (wd y.six2 y.hi2 y.lo2 6), .int .i64 (wd y.six2 y.hi2 y.lo2 7), .int .i64 (wd y.six2 y.hi2 y.lo2 8)] := (hd ⟨13, .data⟩ (by simp) rfl).2
                refine OpStep.of (by have e3 : f' 3 = .bool true := (hd ⟨3, .guard⟩ (by simp) rfl).2; simp [Region.wanted, yielded, e3]) ?_
                have e4 : f' 4 = .func (Fn.func g) #[] lb := (hd ⟨4, .data⟩ (by simp) rfl).2
                have e8 : f' 8 = .agg #[.int .i64 (wd x.six x.hi x.lo 0), .int .i64 (wd x.six x.hi x.lo 1), .int .i64 (wd x.six x.hi x.lo 2), .int .i64 (wd x.six x.hi x.lo 3), .int .i64 (wd x.six x.hi x.lo 4), .int .i64 (wd x.six x.hi x.lo 5), .int .i64 (wd x.six x.hi x.lo 6), .int .i64 (wd x.six x.hi x.lo 7), .int .i64 (wd x.six x.hi x.lo 8), .int .i64 (wd x.six2 x.hi2 x.lo2 0), .int .i64 (wd x.six2 x.hi2 x.lo2 1), .int .i64 (wd x.six2 x.hi2 x.lo2 2), .int .i64 (wd x.six2 x.hi2 x.lo2 3), .int .i64 (wd x.six2 x.hi2 x.lo2 4), .int .i64 (wd x.six2 x.hi2 x.lo2 5), .int .i64 (wd x.six2 x.hi2 x.lo2 6), .int .i64 (wd x.six2 x.hi2 x.lo2 7), .int .i64 (wd x.six2 x.hi2 x.lo2 8)] := (hd ⟨8, .data⟩ (by simp) rfl).2
                have e13 : f' 13 = .agg #[.int .i64 (wd y.six y.hi y.lo 0), .int .i64 (wd y.six y.hi y.lo 1), .int .i64 (wd y.six y.hi y.lo 2), .int .i64 (wd y.six y.hi y.lo 3), .int .i64 (wd y.six y.hi y.lo 4), .int .i64 (wd y.six y.hi y.lo 5), .int .i64 (wd y.six y.hi y.lo 6), .int .i64 (wd y.six y.hi y.lo 7), .int .i64 (wd y.six y.hi y.lo 8), .int .i64 (wd y.six2 y.hi2 y.lo2 0), .int .i64 (wd y.six2 y.hi2 y.lo2 1), .int .i64 (wd y.six2 y.hi2 y.lo2 2), .int .i64 (wd y.six2 y.hi2 y.lo2 3), .int .i64 (wd y.six2 y.hi2 y.lo2 4), .int .i64 (wd y.six2 y.hi2 y.lo2 5), .int .i64 (wd y.six2 y.hi2 y.lo2 6), .int .i64 (wd y.six2 y.hi2 y.lo2 7), .int .i64 (wd y.six2 y.hi2 y.lo2 8)] := (hd ⟨13, .data⟩ (by simp) rfl).2
                unfold Oper.wp
                go_simp
                go_at_fn g
                refine (HC.out w' hS.out).mono ?_
                rintro e w9 ⟨rfl, hb9⟩
                exact ⟨by simp [upd, e4, e8, e13], Lib.hid (hS.out.trans (hb9.mono hS.out.size))⟩
              · have e14 : f' 14 = .int .i64 (c x y) := (hd ⟨14, .data⟩ (by simp) rfl).2
                refine OpStep.of (by have e3 : f' 3 = .bool true := (hd ⟨3, .guard⟩ (by simp) rfl).2; simp [Region.wanted, yielded, e3]) ?_
                unfold Oper.wp
                go_simp
                first | exact ⟨by first | (simp [upd, e14, spLt]; done) | (simp [upd, e14, spLt]; omega), hS⟩ | (simp [upd, e14, spLt]; done) | (simp [upd, e14, spLt]; omega)
            · intro op ho lb' f' w' hd hS
              have e3 : f' 3 = .bool true := (hd 3 (by omega)).2
              have e15 : f' 15 = .bool (spLt c x y) := (hd 15 (by omega)).2
              replace ho := Option.some.inj ho
              subst ho
              refine ⟨rfl, ?_⟩
              have e3 : f' 3 = .bool true := (hd 3 (by omega)).2
              unfold Oper.wp
              go_simp
              go_step
              go_meet
              exact ⟨rfl, hS.out⟩
          obtain ⟨rfl, hbc⟩ := hcut
          have hsoc := HSO.out.below hbc
          cases hq : spLt c x y
          · have HSC := Lib.hid hsoc
            clear hsoc hbc
            go_wp2_with fail
            go_roundw
            case rel => exact ⟨i + 1, by go_num, by omega, by omega, by rw [HD.out (fun z hz => by rw [List.getLast?_append, List.getLast?_singleton] at hz; simp at hz; rw [← hz]; exact hq)]; exact HSC.out⟩
            case measure => simp [intOf]; omega
          · have HSC := Lib.hid hsoc
            have hya : (A' ++ [y] ++ x :: (B ++ R)).getD a noRg = y := by rw [HME.out, ← HALN.out]; exact at_here _ _ _ _
            have hxa : (A' ++ [y] ++ x :: (B ++ R)).getD (a + 1) noRg = x := by rw [← HALN.out, show A'.length + 1 = (A' ++ [y]).length by simp]; exact at_here _ _ _ _
            have HYA := Lib.hid hya
            have HXA := Lib.hid hxa
            have hsw : ((A' ++ [y] ++ x :: (B ++ R)).set (a + 1) y).set a x = A' ++ x :: ((y :: B) ++ R) := by
              rw [HME.out, ← HALN.out, swap_at]
              rfl
            have HSW := Lib.hid hsw
            clear hsoc hbc hya hxa hsw
            generalize A' ++ [y] ++ x :: (B ++ R) = M at HSC HYA HXA HSW HML
            go_upto_region 6 with (fail)
            refine wp_region_exact 17 (fun f' => ⟨#[.slice (some ⟨gb, 0, none⟩) L.length cap, .int .i64 0, .int .i64 L.length, .func (Fn.func g) #[] lb, undef, undef, undef, undef, .int .i64 i, .int .i64 ((a : Int) + 1), .int .i64 0, .int .i64 1, .int .i64 i, .int .i64 L.length, .bool true, u15, u16, .int .i64 i, u18, u19, u20, u21, u22, u23, u24, u25, u26, u27, u28, u29, u30, u31, u32, u33, .bool true, u35, u36, f' 0, f' 1, f' 2, f' 3, f' 4, f' 5, f' 6, f' 7, f' 8, f' 9, f' 10, f' 11, f' 12, f' 13, f' 14, f' 16], []⟩) (fun i => match i with | 0 => .slice (some ⟨gb, 0, none⟩) L.length cap | 1 => .int .i64 ((a : Int) + 1) | 2 => .slice (some ⟨gb, 0, none⟩) L.length cap | 3 => .int .i64 ((a : Int) + 1) | 4 => .int .i64 (a : Int) | 5 => .slice (some ⟨gb, 0, none⟩) L.length cap | 6 => .int .i64 ((a : Int) + 1) | 7 => .int .i64 (a : Int) | 8 => .pointer (some ⟨gb, a * 18, none⟩) | 9 => .agg #[.int .i64 (wd y.six y.hi y.lo 0), .int .i64 (wd y.six y.hi y.lo 1), .int .i64 (wd y.six y.hi y.lo 2), .int .i64 (wd y.six y.hi y.lo 3), .int .i64 (wd y.six y.hi y.lo 4), .int .i64 (wd y.six y.hi y.lo 5), .int .i64 (wd y.six y.hi y.lo 6), .int .i64 (wd y.six y.hi y.lo 7), .int .i64 (wd y.six y.hi y.lo 8), .int .i64 (wd y.six2 y.hi2 y.lo2 0), .int .i64 (wd y.six2 y.hi2 y.lo2 1), .int .i64 (wd y.six2 y.hi2 y.lo2 2), .int .i64 (wd y.six2 y.hi2 y.lo2 3), .int .i64 (wd y.six2 y.hi2 y.lo2 4), .int .i64 (wd y.six2 y.hi2 y.lo2 5), .int .i64 (wd y.six2 y.hi2 y.lo2 6), .int .i64 (wd y.six2 y.hi2 y.lo2 7), .int .i64 (wd y.six2 y.hi2 y.lo2 8)] | 10 => .slice (some ⟨gb, 0, none⟩) L.length cap | 11 => .int .i64 ((a : Int) + 1) | 12 => .pointer (some ⟨gb, (a + 1) * 18, none⟩) | 13 => .agg #[.int .i64 (wd x.six x.hi x.lo 0), .int .i64 (wd x.six x.hi x.lo 1), .int .i64 (wd x.six x.hi x.lo 2), .int .i64 (wd x.six x.hi x.lo 3), .int .i64 (wd x.six x.hi x.lo 4), .int .i64 (wd x.six x.hi x.lo 5), .int .i64 (wd x.six x.hi x.lo 6), .int .i64 (wd x.six x.hi x.lo 7), .int .i64 (wd x.six x.hi x.lo 8), .int .i64 (wd x.six2 x.hi2 x.lo2 0), .int .i64 (wd x.six2 x.hi2 x.lo2 1), .int .i64 (wd x.six2 x.hi2 x.lo2 2), .int .i64 (wd x.six2 x.hi2 x.lo2 3), .int .i64 (wd x.six2 x.hi2 x.lo2 4), .int .i64 (wd x.six2 x.hi2 x.lo2 5), .int .i64 (wd x.six2 x.hi2 x.lo2 6), .int .i64 (wd x.six2 x.hi2 x.lo2 7), .int .i64 (wd x.six2 x.hi2 x.lo2 8)] | 14 => .pointer (some ⟨gb, (a + 1) * 18, none⟩) | 15 => undef | 16 => .pointer (some ⟨gb, a * 18, none⟩) | _ => undef) (fun lb' w' => Hid (spSo w gb cap (if lb' 15 = true then M.set (a + 1) y else M) w' ∧ (lb' 15 = true → lb' 9 = true ∧ lb' 13 = true))) (fun i => match i with | 0 => u37 | 1 => u38 | 2 => u39 | 3 => u40 | 4 => u41 | 5 => u42 | 6 => u43 | 7 => u44 | 8 => u45 | 9 => u46 | 10 => u47 | 11 => u48 | 12 => u49 | 13 => u50 | 14 => u51 | 16 => u52 | _ => undef) 10 (show Tryz.prog.follows .mixedOrders = true from by kernel_rfl) (by kernel_rfl) ?_ ?_ (Lib.hid ⟨HSC.out.drew, fun c => by cases c⟩)
            · intro i op hi ho lb' f' w' hl hS hd
              have hcase : i = 0 ∨ i = 1 ∨ i = 2 ∨ i = 3 ∨ i = 4 ∨ i = 5 ∨ i = 6 ∨ i = 7 ∨ i = 8 ∨ i = 9 ∨ i = 10 ∨ i = 11 ∨ i = 12 ∨ i = 13 ∨ i = 14 ∨ i = 15 ∨ i = 16 := by omega
              rcases hcase with rfl | rfl | rfl | rfl | rfl | rfl | rfl | rfl | rfl | rfl | rfl | rfl | rfl | rfl | rfl | rfl | rfl <;> (replace ho := Option.some.inj ho; subst ho)
              · refine OpStep.of rfl ?_
                unfold Oper.wp
                go_simp
                first | exact ⟨by first | (simp [upd]; done) | (simp [upd]; omega), hS⟩ | (simp [upd]; done) | (simp [upd]; omega)
              · refine OpStep.of rfl ?_
                unfold Oper.wp
                go_simp
                first | exact ⟨by first | (simp [upd]; done) | (simp [upd]; omega), hS⟩ | (simp [upd]; done) | (simp [upd]; omega)
              · refine OpStep.of rfl ?_
                unfold Oper.wp
                go_simp
                first | exact ⟨by first | (simp [upd]; done) | (simp [upd]; omega), hS⟩ | (simp [upd]; done) | (simp [upd]; omega)
              · refine OpStep.of rfl ?_
                unfold Oper.wp
                go_simp
                first | exact ⟨by first | (simp [upd]; done) | (simp [upd]; omega), hS⟩ | (simp [upd]; done) | (simp [upd]; omega)
              · have e3 : f' 3 = .int .i64 ((a : Int) + 1) := (hd ⟨3, .data⟩ (by simp) rfl).2
                refine OpStep.of rfl ?_
                unfold Oper.wp
                go_simp
                first | exact ⟨by first | (simp [upd, e3]; done) | (simp [upd, e3]; omega), hS⟩ | (simp [upd, e3]; done) | (simp [upd, e3]; omega)
              · refine OpStep.of rfl ?_
                unfold Oper.wp
                go_simp
                first | exact ⟨by first | (simp [upd]; done) | (simp [upd]; omega), hS⟩ | (simp [upd]; done) | (simp [upd]; omega)
              · refine OpStep.of rfl ?_
                unfold Oper.wp
                go_simp
                first | exact ⟨by first | (simp [upd]; done) | (simp [upd]; omega), hS⟩ | (simp [upd]; done) | (simp [upd]; omega)
              · have e6 : f' 6 = .int .i64 ((a : Int) + 1) := (hd ⟨6, .data⟩ (by simp) rfl).2
                refine OpStep.of rfl ?_
                unfold Oper.wp
                go_simp
                first | exact ⟨by first | (simp [upd, e6]; done) | (simp [upd, e6]; omega), hS⟩ | (simp [upd, e6]; done) | (simp [upd, e6]; omega)
              · have e5 : f' 5 = .slice (some ⟨gb, 0, none⟩) L.length cap := (hd ⟨5, .data⟩ (by simp) rfl).2
                have e7 : f' 7 = .int .i64 (a : Int) := (hd ⟨7, .data⟩ (by simp) rfl).2
                refine OpStep.of rfl ?_
                unfold Oper.wp
                go_simp
                first | exact ⟨by first | (simp [upd, e5, e7]; done) | (simp [upd, e5, e7]; omega), hS⟩ | (simp [upd, e5, e7]; done) | (simp [upd, e5, e7]; omega)
              · have e8 : f' 8 = .pointer (some ⟨gb, a * 18, none⟩) := (hd ⟨8, .data⟩ (by simp) rfl).2
                refine OpStep.of rfl ?_
                have e8 : f' 8 = .pointer (some ⟨gb, a * 18, none⟩) := (hd ⟨8, .data⟩ (by simp) rfl).2
                have l15 : lb' 15 = false := by cases h : lb' 15; rfl; exact absurd ((hS.out.2 h).1) (by rw [hl]; decide)
                have hso := hS.out.1
                rw [l15, if_neg (by decide)] at hso
                refine load_stepR e8 (hso.cells (by rw [HML.out]; omega) HYA.out) (by kernel_rfl) rfl (by kernel_rfl) ?_
                exact ⟨rfl, Lib.hid ⟨hS.out.1, fun h => ⟨rfl, (hS.out.2 h).2⟩⟩⟩
              · refine OpStep.of rfl ?_
                unfold Oper.wp
                go_simp
                first | exact ⟨by first | (simp [upd]; done) | (simp [upd]; omega), hS⟩ | (simp [upd]; done) | (simp [upd]; omega)
              · refine OpStep.of rfl ?_
                unfold Oper.wp
                go_simp
                first | exact ⟨by first | (simp [upd]; done) | (simp [upd]; omega), hS⟩ | (simp [upd]; done) | (simp [upd]; omega)
              · have e10 : f' 10 = .slice (some ⟨gb, 0, none⟩) L.length cap := (hd ⟨10, .data⟩ (by simp) rfl).2
                have e11 : f' 11 = .int .i64 ((a : Int) + 1) := (hd ⟨11, .data⟩ (by simp) rfl).2
                refine OpStep.of rfl ?_
                unfold Oper.wp
                go_simp
                first | exact ⟨by first | (simp [upd, e10, e11]; done) | (simp [upd, e10, e11]; omega), hS⟩ | (simp [upd, e10, e11]; done) | (simp [upd, e10, e11]; omega)
              · have e12 : f' 12 = .pointer (some ⟨gb, (a + 1) * 18, none⟩) := (hd ⟨12, .data⟩ (by simp) rfl).2
                refine OpStep.of rfl ?_
                have e12 : f' 12 = .pointer (some ⟨gb, (a + 1) * 18, none⟩) := (hd ⟨12, .data⟩ (by simp) rfl).2
                have l15 : lb' 15 = false := by cases h : lb' 15; rfl; exact absurd ((hS.out.2 h).2) (by rw [hl]; decide)
                have hso := hS.out.1
                rw [l15, if_neg (by decide)] at hso
                refine load_stepR e12 (hso.cells (by rw [HML.out]; omega) HXA.out) (by kernel_rfl) rfl (by kernel_rfl) ?_
                exact ⟨rfl, Lib.hid ⟨hS.out.1, fun h => ⟨(hS.out.2 h).1, rfl⟩⟩⟩
              · have e0 : f' 0 = .slice (some ⟨gb, 0, none⟩) L.length cap := (hd ⟨0, .data⟩ (by simp) rfl).2
                have e1 : f' 1 = .int .i64 ((a : Int) + 1) := (hd ⟨1, .data⟩ (by simp) rfl).2
                refine OpStep.of rfl ?_
                unfold Oper.wp
                go_simp
                first | exact ⟨by first | (simp [upd, e0, e1]; done) | (simp [upd, e0, e1]; omega), hS⟩ | (simp [upd, e0, e1]; done) | (simp [upd, e0, e1]; omega)
              · have e9 : f' 9 = .agg #[.int .i64 (wd y.six y.hi y.lo 0), .int .i64 (wd y.six y.hi y.lo 1), .int .i64 (wd y.six y.hi y.lo 2), .int .i64 (wd y.six y.hi y.lo 3), .int .i64 (wd y.six y.hi y.lo 4), .int .i64 (wd y.six y.hi y.lo 5), .int .i64 (wd y.six y.hi y.lo 6), .int .i64 (wd y.six y.hi y.lo 7), .int .i64 (wd y.six y.hi y.lo 8), .int .i64 (wd y.six2 y.hi2 y.lo2 0), .int .i64 (wd y.six2 y.hi2 y.lo2 1), .int .i64 (wd y.six2 y.hi2 y.lo2 2), .int .i64 (wd y.six2 y.hi2 y.lo2 3), .int .i64 (wd y.six2 y.hi2 y.lo2 4), .int .i64 (wd y.six2 y.hi2 y.lo2 5), .int .i64 (wd y.six2 y.hi2 y.lo2 6), .int .i64 (wd y.six2 y.hi2 y.lo2 7), .int .i64 (wd y.six2 y.hi2 y.lo2 8)] := (hd ⟨9, .data⟩ (by simp) rfl).2
                have e14 : f' 14 = .pointer (some ⟨gb, (a + 1) * 18, none⟩) := (hd ⟨14, .data⟩ (by simp) rfl).2
                refine OpStep.of rfl ?_
                have e14 : f' 14 = .pointer (some ⟨gb, (a + 1) * 18, none⟩) := (hd ⟨14, .data⟩ (by simp) rfl).2
                have e9 : f' 9 = .agg #[.int .i64 (wd y.six y.hi y.lo 0), .int .i64 (wd y.six y.hi y.lo 1), .int .i64 (wd y.six y.hi y.lo 2), .int .i64 (wd y.six y.hi y.lo 3), .int .i64 (wd y.six y.hi y.lo 4), .int .i64 (wd y.six y.hi y.lo 5), .int .i64 (wd y.six y.hi y.lo 6), .int .i64 (wd y.six y.hi y.lo 7), .int .i64 (wd y.six y.hi y.lo 8), .int .i64 (wd y.six2 y.hi2 y.lo2 0), .int .i64 (wd y.six2 y.hi2 y.lo2 1), .int .i64 (wd y.six2 y.hi2 y.lo2 2), .int .i64 (wd y.six2 y.hi2 y.lo2 3), .int .i64 (wd y.six2 y.hi2 y.lo2 4), .int .i64 (wd y.six2 y.hi2 y.lo2 5), .int .i64 (wd y.six2 y.hi2 y.lo2 6), .int .i64 (wd y.six2 y.hi2 y.lo2 7), .int .i64 (wd y.six2 y.hi2 y.lo2 8)] := (hd ⟨9, .data⟩ (by simp) rfl).2
                have l9 := (hd ⟨9, .data⟩ (by simp) rfl).1
                have l13 := (hd ⟨13, .phase⟩ (by simp) rfl).1
                have hso := hS.out.1
                rw [hl, if_neg (by decide)] at hso
                have hcx := hso.cells (i := a + 1) (by rw [HML.out]; omega) HXA.out
                refine store_stepR (vs := spC y) e14 e9 (fun j hj => by rw [hcx j _ (List.getElem?_eq_getElem (show j < (spC x).length from hj))]; rfl) (fun j => rw_froz hso.2 j) rfl (by kernel_rfl) (spC_one y) ?_
                exact ⟨rfl, Lib.hid ⟨⟨rw_gsets _ _ _ hso.1, rw_put spC_len hso.2 (a + 1) y (by rw [HML.out]; omega)⟩, fun _ => ⟨l9, l13⟩⟩⟩
              · have e2 : f' 2 = .slice (some ⟨gb, 0, none⟩) L.length cap := (hd ⟨2, .data⟩ (by simp) rfl).2
                have e4 : f' 4 = .int .i64 (a : Int) := (hd ⟨4, .data⟩ (by simp) rfl).2
                refine OpStep.of rfl ?_
                unfold Oper.wp
                go_simp
                first | exact ⟨by first | (simp [upd, e2, e4]; done) | (simp [upd, e2, e4]; omega), hS⟩ | (simp [upd, e2, e4]; done) | (simp [upd, e2, e4]; omega)
            · intro op ho lb' f' w' hd hS
              have e13 : f' 13 = .agg #[.int .i64 (wd x.six x.hi x.lo 0), .int .i64 (wd x.six x.hi x.lo 1), .int .i64 (wd x.six x.hi x.lo 2), .int .i64 (wd x.six x.hi x.lo 3), .int .i64 (wd x.six x.hi x.lo 4), .int .i64 (wd x.six x.hi x.lo 5), .int .i64 (wd x.six x.hi x.lo 6), .int .i64 (wd x.six x.hi x.lo 7), .int .i64 (wd x.six x.hi x.lo 8), .int .i64 (wd x.six2 x.hi2 x.lo2 0), .int .i64 (wd x.six2 x.hi2 x.lo2 1), .int .i64 (wd x.six2 x.hi2 x.lo2 2), .int .i64 (wd x.six2 x.hi2 x.lo2 3), .int .i64 (wd x.six2 x.hi2 x.lo2 4), .int .i64 (wd x.six2 x.hi2 x.lo2 5), .int .i64 (wd x.six2 x.hi2 x.lo2 6), .int .i64 (wd x.six2 x.hi2 x.lo2 7), .int .i64 (wd x.six2 x.hi2 x.lo2 8)] := (hd 13 (by omega)).2
              have e16 : f' 16 = .pointer (some ⟨gb, a * 18, none⟩) := (hd 16 (by omega)).2
              replace ho := Option.some.inj ho
              subst ho
              refine ⟨rfl, ?_⟩
              have hso := hS.out.1
              rw [(hd 15 (by omega)).1, if_pos rfl] at hso
              have hcy := hso.cells (i := a) (x := y) (by rw [List.length_set, HML.out]; omega) (by rw [List.getD_eq_getElem?_getD, List.getElem?_set_ne (by omega), ← List.getD_eq_getElem?_getD]; exact HYA.out)
              refine store_stepR (vs := spC x) e16 e13 (fun j hj => by rw [hcy j _ (List.getElem?_eq_getElem (show j < (spC y).length from hj))]; rfl) (fun j => rw_froz hso.2 j) rfl (by kernel_rfl) (spC_one x) ?_
              have hput2 := rw_put spC_len hso.2 a x (by rw [List.length_set, HML.out]; omega)
              rw [HSW.out] at hput2
              have HN : Hid (spSo w gb cap (A' ++ x :: ((y :: B) ++ R)) (w'.setCells gb (a * 18) (spC x))) := Lib.hid ⟨rw_gsets _ _ _ hso.1, hput2⟩
              clear hso hcy hput2 hS e16 e13
              generalize World.setCells _ _ _ _ = WN at HN ⊢
              go_wp2_with fail
              go_roundw
              case rel => exact ⟨A', y :: B, by rw [HAB.out]; simp, fun z hz => by
                rcases List.mem_cons.1 hz with hz | hz
                · rw [hz]; exact hq
                · exact HB.out z hz, by rw [HALN.out], HN.out⟩
              case measure => simp [intOf]
    · have HIT := Lib.hid (show spSo w gb cap (isortL (spLt c) L) wr by
        rw [List.take_of_length_le (by omega), List.drop_of_length_le (by omega), List.append_nil] at hit
        exact hit)
      clear hit
      have hd : decide ((i : Int) < (L.length : Int)) = false := by simp; omega
      go_wp2_with fail
      go_end0
      exact ⟨rfl, HIT.out⟩

/-- The row, sorted, wherever it lies. -/
def spSoA (w : World) (A : Option Addr) (cap : Nat) (M : List Rg) (wr : World) : Prop := w.grownBy wr (Value.slice A M.length cap).ownBlock ∧ spOwn wr 0 (.slice A M.length cap) M
set_option maxRecDepth 100000 in
set_option maxHeartbeats 400000 in
theorem sp_insAny (A : Option Addr) (cap : Nat) (L : List Rg) (g : Nat) (lb : Array Value) (c : Rg → Rg → Int) (w : World) (eg : ∀ args w, (callFunc g args).run Tryz.prog w = .ok (.enter g args) w)
    (h : spOwn w 0 (.slice A L.length cap) L) (hl : L.length ≤ 1000000) (hp : ∀ wr, w.grownBy wr (Value.slice A L.length cap).ownBlock → spCmp g lb c L wr) :
    Calls Tryz.prog 268 #[.slice A L.length cap, .int .i64 0, .int .i64 L.length, .func (.func g) #[] lb] w
      fun e w' => e = .returned (.tuple #[]) ∧ spSoA w A cap (isortL (spLt c) L) w' := by
  rcases h.2 with ⟨h1, h2⟩ | ⟨gb, cap', cur, h1, _⟩
  · have : L = [] := List.length_eq_zero_iff.1 h2
    subst this
    have HR := Lib.hid (show spSoA w A cap (isortL (spLt c) []) w from ⟨World.grownBy.refl _ _, h⟩)
    clear hp h h1 h2
    go_enter Tryz.func268, Tryz.ntmps268
    go_wp2_with fail
    go_loopw [8] (fun v8 wr => v8 = .int .i64 1 ∧ wr = w) (fun _ _ => 0)
    case atStart => exact ⟨rfl, rfl⟩
    case round =>
      obtain ⟨rfl, rfl⟩ := hrel
      have hd : decide ((1 : Int) < (([] : List Rg).length : Int)) = false := by decide
      go_wp2_with fail
      go_end0
      exact ⟨rfl, HR.out⟩
  · injection h1 with h1
    subst h1
    refine (sp_insertion gb cap L g lb c w eg h hl hp).mono ?_
    rintro e w' ⟨rfl, h1, h2⟩
    refine ⟨rfl, ?_, h2⟩
    exact h1

set_option maxRecDepth 100000 in
set_option maxHeartbeats 1000000 in
theorem sp_pdq (A : Option Addr) (cap : Nat) (L : List Rg) (g : Nat) (lb : Array Value) (c : Rg → Rg → Int) (limit : Int) (w : World) (eg : ∀ args w, (callFunc g args).run Tryz.prog w = .ok (.enter g args) w)
    (h : spOwn w 0 (.slice A L.length cap) L) (hl : L.length ≤ 12) (hp : ∀ wr, w.grownBy wr (Value.slice A L.length cap).ownBlock → spCmp g lb c L wr) :
    Calls Tryz.prog 209 #[.slice A L.length cap, .int .i64 0, .int .i64 L.length, .int .i64 limit, .func (.func g) #[] lb] w
      fun e w' => e = .returned (.tuple #[]) ∧ spSoA w A cap (isortL (spLt c) L) w' := by
  have hi := sp_insAny A cap L g lb c w eg h (by omega) hp
  have h12 : decide ((L.length : Int) ≤ 12) = true := by simp; omega
  have s0 : IntKind.i64.wrap ((L.length : Int) - 0) = (L.length : Int) := by rw [Int.sub_zero]; exact IntWalk.i64_in _ (by omega)
  have s1 : IntKind.i64.wrap (L.length : Int) = (L.length : Int) := IntWalk.i64_in _ (by omega)
  clear h hp
  go_enter Tryz.func209, Tryz.ntmps209
  go_wp2_with fail
  go_loopw [10, 11, 12, 1, 2, 3] (fun v10 v11 v12 v1 v2 v3 wr => v1 = .int .i64 0 ∧ v2 = .int .i64 L.length ∧ v3 = .int .i64 limit ∧ v10 = .bool true ∧ v11 = .bool true ∧ v12 = v12 ∧ wr = w) (fun _ _ _ _ _ _ _ => 0)
  case atStart => exact ⟨rfl, rfl, rfl, rfl, rfl, rfl, rfl⟩
  case round =>
    obtain ⟨rfl, rfl, rfl, rfl, rfl, -, rfl⟩ := hrel
    go_wp2_with fail
    refine hi.mono ?_
    rintro e w2 ⟨rfl, h2⟩
    go_wp2_with fail
    refine bodyPost_ret (v := .tuple #[]) (by simp [results, Tryz.results209, go_sem]) rfl ⟨rfl, h2⟩
theorem sp_sortFunc (A : Option Addr) (cap : Nat) (L : List Rg) (g : Nat) (lb : Array Value) (c : Rg → Rg → Int) (w : World) (eg : ∀ args w, (callFunc g args).run Tryz.prog w = .ok (.enter g args) w)
    (h : spOwn w 0 (.slice A L.length cap) L) (hl : L.length ≤ 12) (hp : ∀ wr, w.grownBy wr (Value.slice A L.length cap).ownBlock → spCmp g lb c L wr) :
    Calls Tryz.prog 148 #[.slice A L.length cap, .func (.func g) #[] lb] w
      fun e w' => e = .returned (.tuple #[]) ∧ spSoA w A cap (isortL (spLt c) L) w' := by
  have hb := Tryz.bits_Len (L.length : Int) w (by omega) (by omega)
  have hi := fun limit => sp_pdq A cap L g lb c limit w eg h hl hp
  have s1 : IntKind.u64.wrap (L.length : Int) = (L.length : Int) := IntWalk.u64_in _ (by omega)
  clear h hp
  go_enter Tryz.func148, Tryz.ntmps148
  go_wp2_with fail
  refine hb.mono ?_
  rintro e w1 ⟨rfl, rfl⟩
  go_wp2_with fail
  refine (hi _).mono ?_
  rintro e w2 ⟨rfl, h2⟩
  go_wp2_with fail
  go_end0
  exact ⟨rfl, h2⟩

end Go.Proofs.YtcmfkheohhfpiaaGreatDoor
