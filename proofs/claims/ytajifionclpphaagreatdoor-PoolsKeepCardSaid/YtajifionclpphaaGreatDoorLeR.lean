/- Leases in memory. -/
import Derived.Test.YtajifionclpphaaGreatDoorAdR
import Derived.Test.YtajifionclpphaaGreatDoorPoB
import Derived.OwnWalk
import Derived.Deep.RegionHeld3
import Derived.Deep.RegionLaw
import Derived.Deep.Cut
import Derived.Deep.CutRange
import Derived.StillTailTactics
import Derived.Test.YtajifionclpphaaGreatDoorShelf
import Derived.Test.YtajifionclpphaaGreatDoorSwD
namespace Go.Proofs.YtajifionclpphaaGreatDoor
open Go.RowKit Go.Hw

def noLe : Le := ⟨[], noPf⟩
def leC (e : Le) : List Value := [.string ⟨e.key.toArray⟩, .bool e.pf.six, .int .u64 e.pf.hi, .int .u64 e.pf.lo, .int .i64 e.pf.bits]
theorem leC_len (e : Le) : (leC e).length = 5 := rfl
abbrev leAt (w : World) (A : Option Addr) (L : List Le) : Prop := RwAt leC 5 noLe w A L
abbrev leOwn (w : World) (base : Nat) (v : Value) (L : List Le) : Prop := w.ownsRow base 67 5 v L.length (rwC leC L)
theorem le_cells {w : World} {g o : Nat} {e : Le} (h : RwCells w g o (leC e)) : w.cell? ⟨g, o, none⟩ = some (.string ⟨e.key.toArray⟩) ∧ w.cell? ⟨g, o + 1, none⟩ = some (.bool e.pf.six) ∧ w.cell? ⟨g, o + 2, none⟩ = some (.int .u64 e.pf.hi) ∧ w.cell? ⟨g, o + 3, none⟩ = some (.int .u64 e.pf.lo) ∧ w.cell? ⟨g, o + 4, none⟩ = some (.int .i64 e.pf.bits) := ⟨h 0 _ rfl, h 1 _ rfl, h 2 _ rfl, h 3 _ rfl, h 4 _ rfl⟩

/-- What is asked of a closure over these structs. -/
def lePred (g : Nat) (lb : Array Value) (p : Le → Bool) (L : List Le) (w : World) : Prop :=
  ∀ (W : World) (e : Le), e ∈ L → Below w.heap.size w W → Calls Tryz.prog g (#[.agg #[.string ⟨e.key.toArray⟩, .bool e.pf.six, .int .u64 e.pf.hi, .int .u64 e.pf.lo, .int .i64 e.pf.bits]] ++ lb) W fun en w' => en = .returned (.bool (p e)) ∧ Below W.heap.size W w'

set_option maxRecDepth 100000 in
set_option maxHeartbeats 1000000 in
theorem le_idx (A : Option Addr) (cap : Nat) (L : List Le) (g : Nat) (lb : Array Value) (p : Le → Bool) (w : World) (eg : ∀ args w, (callFunc g args).run Tryz.prog w = .ok (.enter g args) w)
    (h : leAt w A L) (hl : L.length ≤ 1000000) (hp : lePred g lb p L w) :
    Calls Tryz.prog 119 #[.slice A L.length cap, .func (.func g) #[] lb] w fun e w' => e = .returned (.int .i64 (rwIdx p L)) ∧ Below w.heap.size w w' := by
  go_enter Tryz.func119, Tryz.ntmps119
  go_wp2_with fail
  go_loopw [8] (fun v wr => ∃ k : Nat, k ≤ L.length ∧ v = .int .i64 k ∧ (∀ j, j < k → p (L.getD j noLe) = false) ∧ Below w.heap.size w wr) (fun v _ => L.length - (intOf v).toNat)
  case atStart => exact ⟨0, Nat.zero_le _, rfl, fun j hj => by omega, Below.refl _ _⟩
  case round =>
    obtain ⟨k, hk, rfl, hf, hb⟩ := hrel
    have hlr := h.below hb
    by_cases hlt : k < L.length
    · obtain ⟨g5, off, rfl, hgB, hcc⟩ := hlr k hlt
      obtain ⟨c0, c1, c2, c3, c4⟩ := le_cells hcc
      have HCALL := hp wr (L.getD k noLe) (rw_mem hlt) hb
      generalize hx : L.getD k noLe = x at *
      have HF := Lib.hid hf
      have HX := Lib.hid hx
      have HB := Lib.hid hb
      clear hf hx hp hb hlr h hcc
      have hd : decide ((k : Int) < (L.length : Int)) = true := by simp; omega
      cases hq : p x
      · rw [hq] at HCALL
        go_wp2_with (go_at_fn g; refine HCALL.mono ?_; rintro e w1 ⟨rfl, hb1⟩)
        go_roundw
        case rel => exact ⟨k + 1, by omega, by go_num, fun j hj => (by
          by_cases e : j = k
          · rw [e, HX.out]; exact hq
          · exact HF.out j (by omega)), HB.out.trans (hb1.mono HB.out.size)⟩
        case measure => simp [intOf]; omega
      · rw [hq] at HCALL
        go_wp2_with (go_at_fn g; refine HCALL.mono ?_; rintro e w1 ⟨rfl, hb1⟩)
        go_ret
        exact ⟨ret_eq (rwIdx_at hlt HF.out (by rw [HX.out]; exact hq)).symm, HB.out.trans (hb1.mono HB.out.size)⟩
    · have : k = L.length := by omega
      subst this
      have HF := Lib.hid hf
      clear hf
      go_wp2_with fail
      go_ret
      exact ⟨ret_eq (rwIdx_none HF.out).symm, hb⟩

set_option maxRecDepth 100000 in
set_option maxHeartbeats 400000 in
theorem le_any (A : Option Addr) (cap : Nat) (L : List Le) (g : Nat) (lb : Array Value) (p : Le → Bool) (w : World) (eg : ∀ args w, (callFunc g args).run Tryz.prog w = .ok (.enter g args) w)
    (h : leAt w A L) (hl : L.length ≤ 1000000) (hp : lePred g lb p L w) :
    Calls Tryz.prog 64 #[.slice A L.length cap, .func (.func g) #[] lb] w fun e w' => e = .returned (.bool (L.any p)) ∧ Below w.heap.size w w' := by
  have hcall := le_idx A cap L g lb p w eg h hl hp
  rcases rwIdx_any p L with ⟨h1, h2⟩ | ⟨h1, h2⟩
  · rw [h1]
    generalize rwIdx p L = r at *
    go_enter Tryz.func64, Tryz.ntmps64
    go_wp2_with fail
    refine hcall.mono ?_
    rintro e w1 ⟨rfl, hb⟩
    go_wp2_with fail
    go_ret
    exact ⟨rfl, hb⟩
  · rw [h1]
    rw [h2] at hcall
    go_enter Tryz.func64, Tryz.ntmps64
    go_wp2_with fail
    refine hcall.mono ?_
    rintro e w1 ⟨rfl, hb⟩
    go_wp2_with fail
    go_ret
    exact ⟨rfl, hb⟩

theorem le_info : (Tryz.prog.info? 67).map (fun i => (i.zero, i.size, i.bytes)) = some (some (.agg #[.string ⟨#[]⟩, .bool false, .int .u64 0, .int .u64 0, .int .i64 0]), 5, 48) := by kernel_rfl
theorem leC_one (e : Le) : ∀ u ∈ leC e, u.oneCell' = true := by
  intro u hu
  simp only [leC, List.mem_cons, List.not_mem_nil, or_false] at hu
  rcases hu with rfl | rfl | rfl | rfl | rfl <;> rfl
theorem les_one (L : List Le) : ∀ u ∈ rwC leC L, u.oneCell' = true := by
  intro u hu
  obtain ⟨x, _, hx⟩ := List.mem_flatMap.1 hu
  exact leC_one x u hx
/-- Cells of a row, one after the other. -/
theorem le_flat {w : World} {b off : Nat} {L : List Le} (h : leAt w (some ⟨b, off, none⟩) L) (j : Nat) (u : Value) (hu : (rwC leC L)[j]? = some u) : w.cell? ⟨b, off + j, none⟩ = some u := by
  have hj := (List.getElem?_eq_some_iff.1 hu).1
  rw [rwC_length leC_len] at hj
  have hi : j / 5 < L.length := by omega
  obtain ⟨g, off', e, _, hc⟩ := h (j / 5) hi
  injection e with e
  simp only [Addr.mk.injEq, and_true] at e
  obtain ⟨rfl, rfl⟩ := e
  have hm : j = j / 5 * 5 + j % 5 := by omega
  rw [hm, rwC_at (d := noLe) leC_len L _ _ hi (by omega)] at hu
  have := hc (j % 5) u hu
  rwa [Nat.add_assoc, ← hm] at this

set_option maxHeartbeats 2000000 in
set_option maxRecDepth 100000 in
/-- slices.Clone of a row. -/
theorem le_clone (A : Option Addr) (cap : Nat) (L : List Le) (w : World) (h : leAt w A L) (h0 : A = none → L = []) (hl : L.length ≤ 1000000) :
    Calls Tryz.prog 54 #[.slice A L.length cap] w fun e w' => ∃ v, e = .returned v ∧ leOwn w' w.heap.size v L ∧ Below w.heap.size w w' := by
  rcases A with _ | ⟨b, off, sp⟩
  · obtain rfl := h0 rfl
    have hq : ∀ (w : World) (n : Nat), (binOp .eql 51 (.slice none n cap) (.slice none 0 0)).run Tryz.prog w = .ok (.bool true) w := fun w n => Lib.run_eql_slice_nil w _ _ none n cap 0 0 Tryz.underlying51
    go_enter Tryz.func54, Tryz.ntmps54
    go_wp2_with fail
    go_ret
    exact ⟨_, rfl, World.ownsRow_nil _ _ _ _, Below.refl _ _⟩
  · obtain ⟨i0, hi, hz0, hz1, hz2⟩ := info_parts le_info
    have hsp : sp = none ∨ L = [] := by
      rcases Nat.eq_zero_or_pos L.length with h1 | h1
      · exact .inr (List.length_eq_zero_iff.1 h1)
      · obtain ⟨g, off', e, _⟩ := h 0 h1
        injection e with e
        injection e with _ _ e
        exact .inl e
    have hq : ∀ (w : World), (binOp .eql 51 (.slice (some ⟨b, off, sp⟩) L.length cap) (.slice none 0 0)).run Tryz.prog w = .ok (.bool false) w := fun w => Lib.run_eql_slice_nil w _ _ _ _ _ 0 0 Tryz.underlying51
    have hc : ∀ j u, (rwC leC L)[j]? = some u → w.cell? ((⟨b, off, sp⟩ : Addr).add j) = some u := by
      intro j u hu
      rcases hsp with rfl | rfl
      · rw [Addr.add_lit]
        exact le_flat h j u hu
      · simp [rwC] at hu
    have H := Lib.hid hc
    have hz : (rwC leC L).length = L.length * 5 := rwC_length leC_len L
    have ho := les_one L
    clear h hc
    generalize hcs : rwC leC L = cs at *
    go_enter Tryz.func54, Tryz.ntmps54
    go_wp2_with (at_builtin; refine wpList_append_own _ rfl _ _ 51 rfl w.heap.size 67 i0 (.agg #[.string ⟨#[]⟩, .bool false, .int .u64 0, .int .u64 0, .int .i64 0]) 5 48 Tryz.underlying51 hi hz0 hz1 hz2 rfl (by decide) _ _ _ rfl (World.ownsRow_made w #[] 0 (Nat.le_refl _) (Nat.zero_le _) rfl) ⟨b, off, sp⟩ L.length cap cs rfl ?qc1 ?qc2 ?qc3 ?qc4 ?qc5 ?qc6 ?_)
    case qc1 => exact hz
    case qc2 => exact fun j u hu => Lib.cell?_alloc_some _ (H.out j u hu)
    case qc3 => exact ho
    case qc4 => unfold maxLen; omega
    case qc5 => omega
    case qc6 => simp
    intro v' w1 hown hgrow hnil
    go_wp2_with fail
    go_ret
    refine ⟨v', rfl, by unfold leOwn; rw [hcs]; simpa using hown, ?_⟩
    exact ((Below.refl _ w).alloc (Nat.le_refl _) _).grown hgrow (by simp) (by intro k hk; simp [Value.ownBlock] at hk; omega)

/-- What is asked of a comparison. -/
def leCmp (g : Nat) (lb : Array Value) (c : Le → Le → Int) (L : List Le) (w : World) : Prop :=
  ∀ (W : World) (x y : Le), x ∈ L → y ∈ L → Below w.heap.size w W → Calls Tryz.prog g (#[.agg #[.string ⟨x.key.toArray⟩, .bool x.pf.six, .int .u64 x.pf.hi, .int .u64 x.pf.lo, .int .i64 x.pf.bits], .agg #[.string ⟨y.key.toArray⟩, .bool y.pf.six, .int .u64 y.pf.hi, .int .u64 y.pf.lo, .int .i64 y.pf.bits]] ++ lb) W fun en w' => en = .returned (.int .i64 (c x y)) ∧ Below W.heap.size W w'
def leLt (c : Le → Le → Int) (x y : Le) : Bool := decide (c x y < 0)
/-- The row, at each moment of the sort. -/
def leSo (w : World) (g cap : Nat) (M : List Le) (wr : World) : Prop := w.grownBy wr (some g) ∧ leOwn wr 0 (.slice (some ⟨g, 0, none⟩) M.length cap) M
theorem leSo.drewN {w wr : World} {g cap : Nat} {M : List Le} (h : leSo w g cap M wr) (n : Nat) : leSo w g cap M (wr.drewN n) := ⟨⟨h.1.os, h.1.tape, h.1.output, h.1.size, h.1.block⟩, rw_same h.2 fun _ _ => rfl⟩
theorem leSo.drew {w wr : World} {g cap : Nat} {M : List Le} (h : leSo w g cap M wr) : leSo w g cap M wr.drew := ⟨⟨h.1.os, h.1.tape, h.1.output, h.1.size, h.1.block⟩, rw_same h.2 fun _ _ => rfl⟩
theorem leSo.below {w wr wq : World} {g cap : Nat} {M : List Le} (h : leSo w g cap M wr) (hb : Below wr.heap.size wr wq) : leSo w g cap M wq := ⟨h.1.andThen (grownB hb _) (fun _ h => .inr h), rw_same h.2 fun k hk => hb.block k (h.2.lt k hk).2⟩
theorem leSo.cells {w wr : World} {g cap : Nat} {M : List Le} (h : leSo w g cap M wr) {i : Nat} (hi : i < M.length) {x : Le} (hx : M.getD i noLe = x) : RwCells wr g (i * 5) (leC x) := by
  obtain ⟨g5, off, e1, _, hc⟩ := rw_at' (d := noLe) leC_len h.2 i hi
  injection e1 with e1
  simp only [Addr.mk.injEq, and_true] at e1
  obtain ⟨rfl, rfl⟩ := e1
  rwa [hx, Nat.zero_add] at hc

set_option maxRecDepth 100000 in
set_option maxHeartbeats 2000000 in
theorem le_insertion (gb cap : Nat) (L : List Le) (g : Nat) (lb : Array Value) (c : Le → Le → Int) (w : World) (eg : ∀ args w, (callFunc g args).run Tryz.prog w = .ok (.enter g args) w)
    (h : leOwn w 0 (.slice (some ⟨gb, 0, none⟩) L.length cap) L) (hl : L.length ≤ 1000000) (hp : ∀ wr, w.grownBy wr (some gb) → leCmp g lb c L wr) :
    Calls Tryz.prog 176 #[.slice (some ⟨gb, 0, none⟩) L.length cap, .int .i64 0, .int .i64 L.length, .func (.func g) #[] lb] w
      fun e w' => e = .returned (.tuple #[]) ∧ leSo w gb cap (isortL (leLt c) L) w' := by
  have H0 : Hid (leSo w gb cap (isortL (leLt c) (L.take 1) ++ L.drop 1) w) := Lib.hid (by
    have e : isortL (leLt c) (L.take 1) ++ L.drop 1 = L := by
      cases L with
      | nil => rfl
      | cons x L => rfl
    rw [e]
    exact ⟨World.grownBy.refl _ _, h⟩)
  have HP := Lib.hid hp
  clear h hp
  go_enter Tryz.func176, Tryz.ntmps176
  go_wp2_with fail
  go_loopw [8] (fun v8 wr => ∃ i : Nat, v8 = .int .i64 i ∧ 1 ≤ i ∧ (i ≤ L.length ∨ i = 1) ∧ leSo w gb cap (isortL (leLt c) (L.take i) ++ L.drop i) wr) (fun v8 _ => L.length - (intOf v8).toNat)
  case atStart => exact ⟨1, rfl, by omega, .inr rfl, H0.out⟩
  case round =>
    obtain ⟨i, rfl, hi1, hi2, hit⟩ := hrel
    by_cases hlt : i < L.length
    · clear H0
      generalize hS : isortL (leLt c) (L.take i) = S at hit
      have hSl : S.length = i := by rw [← hS, isortL_length, List.length_take]; omega
      have hSm : ∀ z ∈ S, z ∈ L := fun z hz => by rw [← hS] at hz; exact List.mem_of_mem_take (isortL_mem.1 hz)
      have hxL : L.getD i noLe ∈ L := rw_mem hlt
      rw [drop_cons' noLe hlt] at hit
      generalize hx : L.getD i noLe = x at *
      generalize hR : L.drop (i + 1) = R at *
      have hRl : i + 1 + R.length = L.length := by rw [← hR, List.length_drop]; omega
      have HS := Lib.hid hS
      have HX := Lib.hid hx
      have HR := Lib.hid hR
      have HSM := Lib.hid hSm
      have HIT := Lib.hid hit
      clear hS hx hR hSm hit
      go_wp2_with fail
      go_loopw [9] (fun v9 wq => ∃ A B : List Le, S = A ++ B ∧ (∀ z ∈ B, leLt c x z = true) ∧ v9 = .int .i64 A.length ∧ leSo w gb cap (A ++ x :: (B ++ R)) wq) (fun v9 _ => (intOf v9).toNat)
      case atStart => exact ⟨S, [], by simp, fun z hz => by simp at hz, by rw [hSl], by simpa using HIT.out⟩
      case round =>
        obtain ⟨A, B, hAB, hB, rfl, hso⟩ := hrel
        have hAl : A.length + B.length = i := by rw [← hSl, hAB, List.length_append]
        have hMl : (A ++ x :: (B ++ R)).length = L.length := by simp; omega
        have hdone : (∀ y, A.getLast? = some y → leLt c x y = false) → isortL (leLt c) (L.take (i + 1)) ++ L.drop (i + 1) = A ++ x :: (B ++ R) := fun hA => by
          rw [take_succ' noLe hlt, HX.out, HR.out, isortL_snoc, HS.out, hAB, ins_at hB hA]
          simp
        have HD := Lib.hid hdone
        have HSO := Lib.hid hso
        have HAB := Lib.hid hAB
        have HB := Lib.hid hB
        clear hdone hso hAB hB HIT
        rcases List.eq_nil_or_concat A with hA | ⟨A', y, hA⟩
        · subst hA
          have hg0 : decide ((([] : List Le).length : Int) > 0) = false := by simp
          go_wp2_with fail
          go_quiet (fail)
          go_wp2_with fail
          go_roundw
          case rel => exact ⟨i + 1, by go_num, by omega, by omega, by rw [HD.out (fun y hy => by simp at hy)]; exact HSO.out.drewN _⟩
          case measure => simp [intOf]; omega
        · rw [List.concat_eq_append] at hA
          subst hA
          have hMe : A' ++ [y] ++ x :: (B ++ R) = A' ++ y :: x :: (B ++ R) := by simp
          have hyL : y ∈ L := HSM.out y (by rw [HAB.out]; simp)
          have hlen : (A' ++ [y]).length = A'.length + 1 := by simp
          have hcy := le_cells (HSO.out.cells (i := A'.length) (x := y) (by simp) (by rw [hMe]; exact at_here _ _ _ _))
          have hcx := le_cells (HSO.out.cells (i := A'.length + 1) (x := x) (by simp) (by rw [← hlen]; exact at_here _ _ _ _))
          obtain ⟨c0, c1, c2, c3, c4⟩ := hcy
          obtain ⟨b0, b1, b2, b3, b4⟩ := hcx
          have hgl : gb < wr.heap.size := (HSO.out.2.lt gb rfl).2
          have hlen2 : A'.length + 1 < L.length := by rw [← hMl]; simp
          have HC := HP.out wr HSO.out.1 wr.drew x y hxL hyL (Below.refl _ _).drew
          rw [hlen]
          have HLEN := Lib.hid hlen
          have HML := Lib.hid hMl
          have HAL := Lib.hid hAl
          have HME := Lib.hid hMe
          clear hlen hMl hAl hMe
          generalize hal : A'.length = a at *
          have HALN := Lib.hid hal
          clear hal
          have s1 : ((a : Int) + 1).toNat = a + 1 := by omega
          have s2 : (a : Int) + 1 < (L.length : Int) := by omega
          have s3 : (a : Int) < (L.length : Int) := by omega
          have s4 : 0 ≤ (a : Int) + 1 := by omega
          have s5 : IntKind.i64.wrap ((a : Int) + 1 - 1) = (a : Int) := by rw [show (a : Int) + 1 - 1 = a by omega]; exact IntWalk.i64_in _ (by omega)
          have s7 : IntKind.i64.wrap (a : Int) = (a : Int) := IntWalk.i64_in _ (by omega)
          have s8 : 0 ≤ (a : Int) := by omega
          have s6 : decide ((a : Int) + 1 > 0) = true := decide_eq_true (by omega)
          rw [show ((a + 1 : Nat) : Int) = (a : Int) + 1 from by omega]
          go_upto_region 4 with (fail)
          go_cut [34] from 18 to 34 (fun v34 wx => v34 = .bool (leLt c x y) ∧ Below wr.heap.size wr wx)
          case first =>
            go_region_held3 (fun w' => w'.cell? ⟨gb, a * 5, none⟩ = some (.string ⟨y.key.toArray⟩) ∧ w'.cell? ⟨gb, a * 5 + 1, none⟩ = some (.bool y.pf.six) ∧ w'.cell? ⟨gb, a * 5 + 2, none⟩ = some (.int .u64 y.pf.hi) ∧ w'.cell? ⟨gb, a * 5 + 3, none⟩ = some (.int .u64 y.pf.lo) ∧ w'.cell? ⟨gb, a * 5 + 4, none⟩ = some (.int .i64 y.pf.bits) ∧ w'.cell? ⟨gb, (a + 1) * 5, none⟩ = some (.string ⟨x.key.toArray⟩) ∧ w'.cell? ⟨gb, (a + 1) * 5 + 1, none⟩ = some (.bool x.pf.six) ∧ w'.cell? ⟨gb, (a + 1) * 5 + 2, none⟩ = some (.int .u64 x.pf.hi) ∧ w'.cell? ⟨gb, (a + 1) * 5 + 3, none⟩ = some (.int .u64 x.pf.lo) ∧ w'.cell? ⟨gb, (a + 1) * 5 + 4, none⟩ = some (.int .i64 x.pf.bits)) ((repeat' apply And.intro) <;> (first | (go_simp; done) | with_reducible assumption)) (first | (go_at_fn g; refine HC.mono ?_; rintro e w1 ⟨rfl, hb1⟩; have e0 := (hb1.cell (p := ⟨gb, a * 5, none⟩) hgl).trans c0; have e1 := (hb1.cell (p := ⟨gb, a * 5 + 1, none⟩) hgl).trans c1; have e2 := (hb1.cell (p := ⟨gb, a * 5 + 2, none⟩) hgl).trans c2; have e3 := (hb1.cell (p := ⟨gb, a * 5 + 3, none⟩) hgl).trans c3; have e4 := (hb1.cell (p := ⟨gb, a * 5 + 4, none⟩) hgl).trans c4; have f0 := (hb1.cell (p := ⟨gb, (a + 1) * 5, none⟩) hgl).trans b0; have f1 := (hb1.cell (p := ⟨gb, (a + 1) * 5 + 1, none⟩) hgl).trans b1; have f2 := (hb1.cell (p := ⟨gb, (a + 1) * 5 + 2, none⟩) hgl).trans b2; have f3 := (hb1.cell (p := ⟨gb, (a + 1) * 5 + 3, none⟩) hgl).trans b3; have f4 := (hb1.cell (p := ⟨gb, (a + 1) * 5 + 4, none⟩) hgl).trans b4))
            all_goals (
              go_wp2_with fail
              go_meet
              exact ⟨rfl, ⟨hb1.os, hb1.tape, hb1.output, hb1.size, hb1.block⟩⟩)
          obtain ⟨rfl, hbc⟩ := hcut
          have hsoc := HSO.out.below hbc
          clear c0 c1 c2 c3 c4 b0 b1 b2 b3 b4 hgl HC
          cases hq : leLt c x y
          · have HSC := Lib.hid hsoc
            clear hsoc hbc
            go_wp2_with fail
            go_roundw
            case rel => exact ⟨i + 1, by go_num, by omega, by omega, by rw [HD.out (fun z hz => by rw [List.getLast?_append, List.getLast?_singleton] at hz; simp at hz; rw [← hz]; exact hq)]; exact HSC.out⟩
            case measure => simp [intOf]; omega
          · have hcy := le_cells (hsoc.cells (i := A'.length) (x := y) (by simp) (by rw [HME.out]; exact at_here _ _ _ _))
            have hcx := le_cells (hsoc.cells (i := A'.length + 1) (x := x) (by simp) (by rw [show A'.length + 1 = (A' ++ [y]).length by simp]; exact at_here _ _ _ _))
            rw [HALN.out] at hcy hcx
            obtain ⟨c0, c1, c2, c3, c4⟩ := hcy
            obtain ⟨b0, b1, b2, b3, b4⟩ := hcx
            have hown' := hsoc.2
            have y0 := rw_froz hown' (a * 5)
            have z0 := rw_froz hown' ((a + 1) * 5)
            have y1 := rw_froz hown' (a * 5 + 1)
            have z1 := rw_froz hown' ((a + 1) * 5 + 1)
            have y2 := rw_froz hown' (a * 5 + 2)
            have z2 := rw_froz hown' ((a + 1) * 5 + 2)
            have y3 := rw_froz hown' (a * 5 + 3)
            have z3 := rw_froz hown' ((a + 1) * 5 + 3)
            have y4 := rw_froz hown' (a * 5 + 4)
            have z4 := rw_froz hown' ((a + 1) * 5 + 4)
            have hput1 := rw_put leC_len hsoc.2 (a + 1) y (by rw [HML.out]; omega)
            have hput2 := rw_put leC_len hput1 a x (by rw [List.length_set, HML.out]; omega)
            have hgr : w.grownBy ((wc.setCells gb ((a + 1) * 5) (leC y)).setCells gb (a * 5) (leC x)) (some gb) := rw_gsets _ _ _ (rw_gsets _ _ _ hsoc.1)
            have hsw : ((A' ++ [y] ++ x :: (B ++ R)).set (a + 1) y).set a x = A' ++ x :: ((y :: B) ++ R) := by
              rw [HME.out, ← HALN.out, swap_at]
              rfl
            rw [hsw] at hput2
            have hnew : leSo w gb cap (A' ++ x :: ((y :: B) ++ R)) ((wc.setCells gb ((a + 1) * 5) (leC y)).setCells gb (a * 5) (leC x)) := ⟨hgr, hput2⟩
            have HN := Lib.hid hnew
            clear hnew hput1 hput2 hgr hsw hsoc hown' hbc
            go_wp2_with fail
            go_region_law (go_simp)
            all_goals (
              go_wp2_with fail
              go_roundw
              case rel => exact ⟨A', y :: B, by rw [HAB.out]; simp, fun z hz => by
                rcases List.mem_cons.1 hz with hz | hz
                · rw [hz]; exact hq
                · exact HB.out z hz, by rw [HALN.out], HN.out.drew⟩
              case measure => simp [intOf])
    · have HIT := Lib.hid (show leSo w gb cap (isortL (leLt c) L) wr by
        rw [List.take_of_length_le (by omega), List.drop_of_length_le (by omega), List.append_nil] at hit
        exact hit)
      clear hit
      have hd : decide ((i : Int) < (L.length : Int)) = false := by simp; omega
      go_wp2_with fail
      go_end0
      exact ⟨rfl, HIT.out⟩

/-- The row, sorted, wherever it lies. -/
def leSoA (w : World) (A : Option Addr) (cap : Nat) (M : List Le) (wr : World) : Prop := w.grownBy wr (Value.slice A M.length cap).ownBlock ∧ leOwn wr 0 (.slice A M.length cap) M
set_option maxRecDepth 100000 in
set_option maxHeartbeats 400000 in
theorem le_insAny (A : Option Addr) (cap : Nat) (L : List Le) (g : Nat) (lb : Array Value) (c : Le → Le → Int) (w : World) (eg : ∀ args w, (callFunc g args).run Tryz.prog w = .ok (.enter g args) w)
    (h : leOwn w 0 (.slice A L.length cap) L) (hl : L.length ≤ 1000000) (hp : ∀ wr, w.grownBy wr (Value.slice A L.length cap).ownBlock → leCmp g lb c L wr) :
    Calls Tryz.prog 176 #[.slice A L.length cap, .int .i64 0, .int .i64 L.length, .func (.func g) #[] lb] w
      fun e w' => e = .returned (.tuple #[]) ∧ leSoA w A cap (isortL (leLt c) L) w' := by
  rcases h.2 with ⟨h1, h2⟩ | ⟨gb, cap', cur, h1, _⟩
  · have : L = [] := List.length_eq_zero_iff.1 h2
    subst this
    have HR := Lib.hid (show leSoA w A cap (isortL (leLt c) []) w from ⟨World.grownBy.refl _ _, h⟩)
    clear hp h h1 h2
    go_enter Tryz.func176, Tryz.ntmps176
    go_wp2_with fail
    go_loopw [8] (fun v8 wr => v8 = .int .i64 1 ∧ wr = w) (fun _ _ => 0)
    case atStart => exact ⟨rfl, rfl⟩
    case round =>
      obtain ⟨rfl, rfl⟩ := hrel
      have hd : decide ((1 : Int) < (([] : List Le).length : Int)) = false := by decide
      go_wp2_with fail
      go_end0
      exact ⟨rfl, HR.out⟩
  · injection h1 with h1
    subst h1
    refine (le_insertion gb cap L g lb c w eg h hl hp).mono ?_
    rintro e w' ⟨rfl, h1, h2⟩
    refine ⟨rfl, ?_, h2⟩
    exact h1

set_option maxRecDepth 100000 in
set_option maxHeartbeats 1000000 in
theorem le_insNone (A : Option Addr) (cap : Nat) (L : List Le) (f : Value) (w : World) :
    Calls Tryz.prog 176 #[.slice A L.length cap, .int .i64 20, .int .i64 20, f] w
      fun e w' => e = .returned (.tuple #[]) ∧ w' = w := by
  go_enter Tryz.func176, Tryz.ntmps176
  go_wp2_with fail
  go_loopw [8] (fun v8 wr => v8 = .int .i64 21 ∧ wr = w) (fun _ _ => 0)
  case atStart => exact ⟨rfl, rfl⟩
  case round =>
    obtain ⟨rfl, rfl⟩ := hrel
    go_wp2_with fail
    go_end0
    exact ⟨rfl, rfl⟩
set_option maxRecDepth 100000 in
set_option maxHeartbeats 1000000 in
theorem le_stable (A : Option Addr) (cap : Nat) (L : List Le) (g : Nat) (lb : Array Value) (c : Le → Le → Int) (w : World) (eg : ∀ args w, (callFunc g args).run Tryz.prog w = .ok (.enter g args) w)
    (h : leOwn w 0 (.slice A L.length cap) L) (hl : L.length ≤ 20) (hp : ∀ wr, w.grownBy wr (Value.slice A L.length cap).ownBlock → leCmp g lb c L wr) :
    Calls Tryz.prog 120 #[.slice A L.length cap, .int .i64 L.length, .func (.func g) #[] lb] w
      fun e w' => e = .returned (.tuple #[]) ∧ leSoA w A cap (isortL (leLt c) L) w' := by
  have hi := le_insAny A cap L g lb c w eg h (by omega) hp
  have h21 : decide ((20 : Int) < (L.length : Int)) = false := by simp; omega
  clear h hp
  by_cases h20e : L.length = 20
  · have hn := fun W => le_insNone A cap L (.func (.func g) #[] lb) W
    rw [h20e] at hi hn h21 ⊢
    rw [show ((20 : Nat) : Int) = 20 from rfl] at hi h21 ⊢
    have HI := Lib.hid hi
    clear hi h20e hl
    go_enter Tryz.func120, Tryz.ntmps120
    go_wp2_with fail
    go_loopw [7, 8] (fun v7 v8 wr => (v7 = .int .i64 0 ∧ v8 = .int .i64 20 ∧ wr = w) ∨ (v7 = .int .i64 20 ∧ v8 = .int .i64 40 ∧ leSoA w A cap (isortL (leLt c) L) wr)) (fun _ v8 _ => (60 - intOf v8).toNat)
    case atStart => exact .inl ⟨rfl, rfl, rfl⟩
    case round =>
      rcases hrel with ⟨rfl, rfl, rfl⟩ | ⟨rfl, rfl, hso⟩
      · go_wp2_with fail
        refine HI.out.mono ?_
        rintro e w2 ⟨rfl, h2⟩
        have H2 := Lib.hid h2
        clear h2
        go_wp2_with fail
        go_roundw
        case rel => exact .inr ⟨rfl, rfl, H2.out⟩
        case measure => simp [intOf]
      · have H2 := Lib.hid hso
        clear hso
        go_wp2_with fail
        refine (hn _).mono ?_
        rintro e w3 ⟨rfl, rfl⟩
        go_wp2_with fail
        obtain ⟨wo, rfl⟩ : ∃ wo : World, wo = w3 := ⟨_, rfl⟩
        go_loopw [6] (fun v6 wr => v6 = .int .i64 20 ∧ wr = wo) (fun _ _ => 0)
        case atStart => exact ⟨rfl, rfl⟩
        case round =>
          obtain ⟨rfl, rfl⟩ := hrel
          go_wp2_with fail
          go_end0
          exact ⟨rfl, H2.out⟩
  · have h20 : decide ((20 : Int) ≤ (L.length : Int)) = false := by simp; omega
    clear h20e
    go_enter Tryz.func120, Tryz.ntmps120
    go_wp2_with fail
    go_loopw [7, 8] (fun v7 v8 wr => v7 = .int .i64 0 ∧ v8 = .int .i64 20 ∧ wr = w) (fun _ _ _ => 0)
    case atStart => exact ⟨rfl, rfl, rfl⟩
    case round =>
      obtain ⟨rfl, rfl, rfl⟩ := hrel
      go_wp2_with fail
      refine hi.mono ?_
      rintro e w2 ⟨rfl, h2⟩
      clear hi
      go_wp2_with fail
      go_loopw [6] (fun v6 wr => v6 = .int .i64 20 ∧ wr = w2) (fun _ _ => 0)
      case atStart => exact ⟨rfl, rfl⟩
      case round =>
        obtain ⟨rfl, rfl⟩ := hrel
        go_wp2_with fail
        go_end0
        exact ⟨rfl, h2⟩
theorem le_sortStable (A : Option Addr) (cap : Nat) (L : List Le) (g : Nat) (lb : Array Value) (c : Le → Le → Int) (w : World) (eg : ∀ args w, (callFunc g args).run Tryz.prog w = .ok (.enter g args) w)
    (h : leOwn w 0 (.slice A L.length cap) L) (hl : L.length ≤ 20) (hp : ∀ wr, w.grownBy wr (Value.slice A L.length cap).ownBlock → leCmp g lb c L wr) :
    Calls Tryz.prog 66 #[.slice A L.length cap, .func (.func g) #[] lb] w
      fun e w' => e = .returned (.tuple #[]) ∧ leSoA w A cap (isortL (leLt c) L) w' := by
  have hi := le_stable A cap L g lb c w eg h hl hp
  clear h hp
  go_enter Tryz.func66, Tryz.ntmps66
  go_wp2_with fail
  refine hi.mono ?_
  rintro e w2 ⟨rfl, h2⟩
  go_wp2_with fail
  go_end0
  exact ⟨rfl, h2⟩

set_option maxRecDepth 100000 in
set_option maxHeartbeats 1000000 in
theorem le_pdq (A : Option Addr) (cap : Nat) (L : List Le) (g : Nat) (lb : Array Value) (c : Le → Le → Int) (limit : Int) (w : World) (eg : ∀ args w, (callFunc g args).run Tryz.prog w = .ok (.enter g args) w)
    (h : leOwn w 0 (.slice A L.length cap) L) (hl : L.length ≤ 12) (hp : ∀ wr, w.grownBy wr (Value.slice A L.length cap).ownBlock → leCmp g lb c L wr) :
    Calls Tryz.prog 178 #[.slice A L.length cap, .int .i64 0, .int .i64 L.length, .int .i64 limit, .func (.func g) #[] lb] w
      fun e w' => e = .returned (.tuple #[]) ∧ leSoA w A cap (isortL (leLt c) L) w' := by
  have hi := le_insAny A cap L g lb c w eg h (by omega) hp
  have h12 : decide ((L.length : Int) ≤ 12) = true := by simp; omega
  have s0 : IntKind.i64.wrap ((L.length : Int) - 0) = (L.length : Int) := by rw [Int.sub_zero]; exact IntWalk.i64_in _ (by omega)
  have s1 : IntKind.i64.wrap (L.length : Int) = (L.length : Int) := IntWalk.i64_in _ (by omega)
  clear h hp
  go_enter Tryz.func178, Tryz.ntmps178
  go_wp2_with fail
  go_loopw [10, 11, 12, 1, 2, 3] (fun v10 v11 v12 v1 v2 v3 wr => v1 = .int .i64 0 ∧ v2 = .int .i64 L.length ∧ v3 = .int .i64 limit ∧ v10 = .bool true ∧ v11 = .bool true ∧ v12 = v12 ∧ wr = w) (fun _ _ _ _ _ _ _ => 0)
  case atStart => exact ⟨rfl, rfl, rfl, rfl, rfl, rfl, rfl⟩
  case round =>
    obtain ⟨rfl, rfl, rfl, rfl, rfl, -, rfl⟩ := hrel
    go_wp2_with fail
    refine hi.mono ?_
    rintro e w2 ⟨rfl, h2⟩
    go_wp2_with fail
    refine bodyPost_ret (v := .tuple #[]) (by simp [results, Tryz.results178, go_sem]) rfl ⟨rfl, h2⟩
theorem le_sortFunc (A : Option Addr) (cap : Nat) (L : List Le) (g : Nat) (lb : Array Value) (c : Le → Le → Int) (w : World) (eg : ∀ args w, (callFunc g args).run Tryz.prog w = .ok (.enter g args) w)
    (h : leOwn w 0 (.slice A L.length cap) L) (hl : L.length ≤ 12) (hp : ∀ wr, w.grownBy wr (Value.slice A L.length cap).ownBlock → leCmp g lb c L wr) :
    Calls Tryz.prog 122 #[.slice A L.length cap, .func (.func g) #[] lb] w
      fun e w' => e = .returned (.tuple #[]) ∧ leSoA w A cap (isortL (leLt c) L) w' := by
  have hb := Tryz.bits_Len (L.length : Int) w (by omega) (by omega)
  have hi := fun limit => le_pdq A cap L g lb c limit w eg h hl hp
  have s1 : IntKind.u64.wrap (L.length : Int) = (L.length : Int) := IntWalk.u64_in _ (by omega)
  clear h hp
  go_enter Tryz.func122, Tryz.ntmps122
  go_wp2_with fail
  refine hb.mono ?_
  rintro e w1 ⟨rfl, rfl⟩
  go_wp2_with fail
  refine (hi _).mono ?_
  rintro e w2 ⟨rfl, h2⟩
  go_wp2_with fail
  go_end0
  exact ⟨rfl, h2⟩

end Go.Proofs.YtajifionclpphaaGreatDoor
