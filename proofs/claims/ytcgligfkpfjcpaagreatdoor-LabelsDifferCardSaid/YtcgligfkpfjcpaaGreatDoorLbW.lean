/- Wishes in memory. -/
import Derived.Test.YtcgligfkpfjcpaaGreatDoorRwS
import Derived.Test.YtcgligfkpfjcpaaGreatDoorLbA
import Derived.OwnWalk
import Derived.Deep.RegionHeld3
import Derived.Deep.RegionLaw
import Derived.Deep.Cut
import Derived.Deep.CutRange
import Derived.StillTailTactics
namespace Go.Proofs.YtcgligfkpfjcpaaGreatDoor
open Go.RowKit Go.Hw

def wsC (e : Wi) : List Value := [.string e.node, .string e.name, .int .i64 e.joined]
theorem wsC_len (e : Wi) : (wsC e).length = 3 := rfl
abbrev wsAt (w : World) (A : Option Addr) (L : List Wi) : Prop := RwAt wsC 3 noWi w A L
abbrev wsOwn (w : World) (base : Nat) (v : Value) (L : List Wi) : Prop := w.ownsRow base 36 3 v L.length (rwC wsC L)
theorem ws_cells {w : World} {g o : Nat} {e : Wi} (h : RwCells w g o (wsC e)) : w.cell? ⟨g, o, none⟩ = some (.string e.node) ∧ w.cell? ⟨g, o + 1, none⟩ = some (.string e.name) ∧ w.cell? ⟨g, o + 2, none⟩ = some (.int .i64 e.joined) := ⟨h 0 _ rfl, h 1 _ rfl, h 2 _ rfl⟩

/-- What is asked of a closure over these structs. -/
def wsPred (g : Nat) (lb : Array Value) (p : Wi → Bool) (L : List Wi) (w : World) : Prop :=
  ∀ (W : World) (e : Wi), e ∈ L → Below w.heap.size w W → Calls Tryz.prog g (#[.agg #[.string e.node, .string e.name, .int .i64 e.joined]] ++ lb) W fun en w' => en = .returned (.bool (p e)) ∧ Below W.heap.size W w'

theorem ws_info : (Tryz.prog.info? 36).map (fun i => (i.zero, i.size, i.bytes)) = some (some (.agg #[.string ⟨#[]⟩, .string ⟨#[]⟩, .int .i64 0]), 3, 40) := by kernel_rfl
theorem wsC_one (e : Wi) : ∀ u ∈ wsC e, u.oneCell' = true := by
  intro u hu
  simp only [wsC, List.mem_cons, List.not_mem_nil, or_false] at hu
  rcases hu with rfl | rfl | rfl <;> rfl
theorem wss_one (L : List Wi) : ∀ u ∈ rwC wsC L, u.oneCell' = true := by
  intro u hu
  obtain ⟨x, _, hx⟩ := List.mem_flatMap.1 hu
  exact wsC_one x u hx
/-- Cells of a row, one after the other. -/
theorem ws_flat {w : World} {b off : Nat} {L : List Wi} (h : wsAt w (some ⟨b, off, none⟩) L) (j : Nat) (u : Value) (hu : (rwC wsC L)[j]? = some u) : w.cell? ⟨b, off + j, none⟩ = some u := by
  have hj := (List.getElem?_eq_some_iff.1 hu).1
  rw [rwC_length wsC_len] at hj
  have hi : j / 3 < L.length := by omega
  obtain ⟨g, off', e, _, hc⟩ := h (j / 3) hi
  injection e with e
  simp only [Addr.mk.injEq, and_true] at e
  obtain ⟨rfl, rfl⟩ := e
  have hm : j = j / 3 * 3 + j % 3 := by omega
  rw [hm, rwC_at (d := noWi) wsC_len L _ _ hi (by omega)] at hu
  have := hc (j % 3) u hu
  rwa [Nat.add_assoc, ← hm] at this

set_option maxHeartbeats 2000000 in
set_option maxRecDepth 100000 in
/-- slices.Clone of a row. -/
theorem ws_clone (A : Option Addr) (cap : Nat) (L : List Wi) (w : World) (h : wsAt w A L) (h0 : A = none → L = []) (hl : L.length ≤ 1000000) :
    Calls Tryz.prog 8 #[.slice A L.length cap] w fun e w' => ∃ v, e = .returned v ∧ wsOwn w' w.heap.size v L ∧ Below w.heap.size w w' := by
  rcases A with _ | ⟨b, off, sp⟩
  · obtain rfl := h0 rfl
    have hq : ∀ (w : World) (n : Nat), (binOp .eql 26 (.slice none n cap) (.slice none 0 0)).run Tryz.prog w = .ok (.bool true) w := fun w n => Lib.run_eql_slice_nil w _ _ none n cap 0 0 Tryz.underlying26
    go_enter Tryz.func8, Tryz.ntmps8
    go_wp2_with fail
    go_ret
    exact ⟨_, rfl, World.ownsRow_nil _ _ _ _, Below.refl _ _⟩
  · obtain ⟨i0, hi, hz0, hz1, hz2⟩ := info_parts ws_info
    have hsp : sp = none ∨ L = [] := by
      rcases Nat.eq_zero_or_pos L.length with h1 | h1
      · exact .inr (List.length_eq_zero_iff.1 h1)
      · obtain ⟨g, off', e, _⟩ := h 0 h1
        injection e with e
        injection e with _ _ e
        exact .inl e
    have hq : ∀ (w : World), (binOp .eql 26 (.slice (some ⟨b, off, sp⟩) L.length cap) (.slice none 0 0)).run Tryz.prog w = .ok (.bool false) w := fun w => Lib.run_eql_slice_nil w _ _ _ _ _ 0 0 Tryz.underlying26
    have hc : ∀ j u, (rwC wsC L)[j]? = some u → w.cell? ((⟨b, off, sp⟩ : Addr).add j) = some u := by
      intro j u hu
      rcases hsp with rfl | rfl
      · rw [Addr.add_lit]
        exact ws_flat h j u hu
      · simp [rwC] at hu
    have H := Lib.hid hc
    have hz : (rwC wsC L).length = L.length * 3 := rwC_length wsC_len L
    have ho := wss_one L
    clear h hc
    generalize hcs : rwC wsC L = cs at *
    go_enter Tryz.func8, Tryz.ntmps8
    go_wp2_with (at_builtin; refine wpList_append_own _ rfl _ _ 26 rfl w.heap.size 36 i0 (.agg #[.string ⟨#[]⟩, .string ⟨#[]⟩, .int .i64 0]) 3 40 Tryz.underlying26 hi hz0 hz1 hz2 rfl (by decide) _ _ _ rfl (World.ownsRow_made w #[] 0 (Nat.le_refl _) (Nat.zero_le _) rfl) ⟨b, off, sp⟩ L.length cap cs rfl ?qc1 ?qc2 ?qc3 ?qc4 ?qc5 ?qc6 ?_)
    case qc1 => exact hz
    case qc2 => exact fun j u hu => Lib.cell?_alloc_some _ (H.out j u hu)
    case qc3 => exact ho
    case qc4 => unfold maxLen; omega
    case qc5 => omega
    case qc6 => simp
    intro v' w1 hown hgrow hnil
    go_wp2_with fail
    go_ret
    refine ⟨v', rfl, by unfold wsOwn; rw [hcs]; simpa using hown, ?_⟩
    exact ((Below.refl _ w).alloc (Nat.le_refl _) _).grown hgrow (by simp) (by intro k hk; simp [Value.ownBlock] at hk; omega)

/-- What is asked of a comparison. -/
def wsCmp (g : Nat) (lb : Array Value) (c : Wi → Wi → Int) (L : List Wi) (w : World) : Prop :=
  ∀ (W : World) (x y : Wi), x ∈ L → y ∈ L → Below w.heap.size w W → Calls Tryz.prog g (#[.agg #[.string x.node, .string x.name, .int .i64 x.joined], .agg #[.string y.node, .string y.name, .int .i64 y.joined]] ++ lb) W fun en w' => en = .returned (.int .i64 (c x y)) ∧ Below W.heap.size W w'
def wsLt (c : Wi → Wi → Int) (x y : Wi) : Bool := decide (c x y < 0)
/-- The row, at each moment of the sort. -/
def wsSo (w : World) (g cap : Nat) (M : List Wi) (wr : World) : Prop := w.grownBy wr (some g) ∧ wsOwn wr 0 (.slice (some ⟨g, 0, none⟩) M.length cap) M
theorem wsSo.drewN {w wr : World} {g cap : Nat} {M : List Wi} (h : wsSo w g cap M wr) (n : Nat) : wsSo w g cap M (wr.drewN n) := ⟨⟨h.1.os, h.1.tape, h.1.output, h.1.size, h.1.block⟩, rw_same h.2 fun _ _ => rfl⟩
theorem wsSo.drew {w wr : World} {g cap : Nat} {M : List Wi} (h : wsSo w g cap M wr) : wsSo w g cap M wr.drew := ⟨⟨h.1.os, h.1.tape, h.1.output, h.1.size, h.1.block⟩, rw_same h.2 fun _ _ => rfl⟩
theorem wsSo.below {w wr wq : World} {g cap : Nat} {M : List Wi} (h : wsSo w g cap M wr) (hb : Below wr.heap.size wr wq) : wsSo w g cap M wq := ⟨h.1.andThen (grownB hb _) (fun _ h => .inr h), rw_same h.2 fun k hk => hb.block k (h.2.lt k hk).2⟩
theorem wsSo.cells {w wr : World} {g cap : Nat} {M : List Wi} (h : wsSo w g cap M wr) {i : Nat} (hi : i < M.length) {x : Wi} (hx : M.getD i noWi = x) : RwCells wr g (i * 3) (wsC x) := by
  obtain ⟨g5, off, e1, _, hc⟩ := rw_at' (d := noWi) wsC_len h.2 i hi
  injection e1 with e1
  simp only [Addr.mk.injEq, and_true] at e1
  obtain ⟨rfl, rfl⟩ := e1
  rwa [hx, Nat.zero_add] at hc

set_option maxRecDepth 100000 in
set_option maxHeartbeats 2000000 in
theorem ws_insertion (gb cap : Nat) (L : List Wi) (g : Nat) (lb : Array Value) (c : Wi → Wi → Int) (w : World) (eg : ∀ args w, (callFunc g args).run Tryz.prog w = .ok (.enter g args) w)
    (h : wsOwn w 0 (.slice (some ⟨gb, 0, none⟩) L.length cap) L) (hl : L.length ≤ 1000000) (hp : ∀ wr, w.grownBy wr (some gb) → wsCmp g lb c L wr) :
    Calls Tryz.prog 88 #[.slice (some ⟨gb, 0, none⟩) L.length cap, .int .i64 0, .int .i64 L.length, .func (.func g) #[] lb] w
      fun e w' => e = .returned (.tuple #[]) ∧ wsSo w gb cap (isortL (wsLt c) L) w' := by
  have H0 : Hid (wsSo w gb cap (isortL (wsLt c) (L.take 1) ++ L.drop 1) w) := Lib.hid (by
    have e : isortL (wsLt c) (L.take 1) ++ L.drop 1 = L := by
      cases L with
      | nil => rfl
      | cons x L => rfl
    rw [e]
    exact ⟨World.grownBy.refl _ _, h⟩)
  have HP := Lib.hid hp
  clear h hp
  go_enter Tryz.func88, Tryz.ntmps88
  go_wp2_with fail
  go_loopw [8] (fun v8 wr => ∃ i : Nat, v8 = .int .i64 i ∧ 1 ≤ i ∧ (i ≤ L.length ∨ i = 1) ∧ wsSo w gb cap (isortL (wsLt c) (L.take i) ++ L.drop i) wr) (fun v8 _ => L.length - (intOf v8).toNat)
  case atStart => exact ⟨1, rfl, by omega, .inr rfl, H0.out⟩
  case round =>
    obtain ⟨i, rfl, hi1, hi2, hit⟩ := hrel
    by_cases hlt : i < L.length
    · clear H0
      generalize hS : isortL (wsLt c) (L.take i) = S at hit
      have hSl : S.length = i := by rw [← hS, isortL_length, List.length_take]; omega
      have hSm : ∀ z ∈ S, z ∈ L := fun z hz => by rw [← hS] at hz; exact List.mem_of_mem_take (isortL_mem.1 hz)
      have hxL : L.getD i noWi ∈ L := rw_mem hlt
      rw [drop_cons' noWi hlt] at hit
      generalize hx : L.getD i noWi = x at *
      generalize hR : L.drop (i + 1) = R at *
      have hRl : i + 1 + R.length = L.length := by rw [← hR, List.length_drop]; omega
      have HS := Lib.hid hS
      have HX := Lib.hid hx
      have HR := Lib.hid hR
      have HSM := Lib.hid hSm
      have HIT := Lib.hid hit
      clear hS hx hR hSm hit
      go_wp2_with fail
      go_loopw [9] (fun v9 wq => ∃ A B : List Wi, S = A ++ B ∧ (∀ z ∈ B, wsLt c x z = true) ∧ v9 = .int .i64 A.length ∧ wsSo w gb cap (A ++ x :: (B ++ R)) wq) (fun v9 _ => (intOf v9).toNat)
      case atStart => exact ⟨S, [], by simp, fun z hz => by simp at hz, by rw [hSl], by simpa using HIT.out⟩
      case round =>
        obtain ⟨A, B, hAB, hB, rfl, hso⟩ := hrel
        have hAl : A.length + B.length = i := by rw [← hSl, hAB, List.length_append]
        have hMl : (A ++ x :: (B ++ R)).length = L.length := by simp; omega
        have hdone : (∀ y, A.getLast? = some y → wsLt c x y = false) → isortL (wsLt c) (L.take (i + 1)) ++ L.drop (i + 1) = A ++ x :: (B ++ R) := fun hA => by
          rw [take_succ' noWi hlt, HX.out, HR.out, isortL_snoc, HS.out, hAB, ins_at hB hA]
          simp
        have HD := Lib.hid hdone
        have HSO := Lib.hid hso
        have HAB := Lib.hid hAB
        have HB := Lib.hid hB
        clear hdone hso hAB hB HIT
        rcases List.eq_nil_or_concat A with hA | ⟨A', y, hA⟩
        · subst hA
          have hg0 : decide ((([] : List Wi).length : Int) > 0) = false := by simp
          go_wp2_with fail
          go_quiet (fail)
          go_wp2_with fail
          go_roundw
          case rel => exact ⟨i + 1, by go_num, by omega, by omega, by rw [HD.out (fun y hy => by simp at hy)]; exact HSO.out.drewN _⟩
          case measure => simp [intOf]; omega
        · rw [List.concat_eq_append] at hA
          subst hA
          have hMe : A' ++ [y] ++ x :: (B ++ R) = A' ++ y :: x :: (B ++ R) := by simp
          have hyL : y ∈ L := HSM.out y (by rw [HAB.out]; simp)
          have hlen : (A' ++ [y]).length = A'.length + 1 := by simp
          have hcy := ws_cells (HSO.out.cells (i := A'.length) (x := y) (by simp) (by rw [hMe]; exact at_here _ _ _ _))
          have hcx := ws_cells (HSO.out.cells (i := A'.length + 1) (x := x) (by simp) (by rw [← hlen]; exact at_here _ _ _ _))
          obtain ⟨c0, c1, c2⟩ := hcy
          obtain ⟨b0, b1, b2⟩ := hcx
          have hgl : gb < wr.heap.size := (HSO.out.2.lt gb rfl).2
          have hlen2 : A'.length + 1 < L.length := by rw [← hMl]; simp
          have HC := HP.out wr HSO.out.1 wr.drew x y hxL hyL (Below.refl _ _).drew
          rw [hlen]
          have HLEN := Lib.hid hlen
          have HML := Lib.hid hMl
          have HAL := Lib.hid hAl
          have HME := Lib.hid hMe
          clear hlen hMl hAl hMe
          generalize hal : A'.length = a at *
          have HALN := Lib.hid hal
          clear hal
          have s1 : ((a : Int) + 1).toNat = a + 1 := by omega
          have s2 : (a : Int) + 1 < (L.length : Int) := by omega
          have s3 : (a : Int) < (L.length : Int) := by omega
          have s4 : 0 ≤ (a : Int) + 1 := by omega
          have s5 : IntKind.i64.wrap ((a : Int) + 1 - 1) = (a : Int) := by rw [show (a : Int) + 1 - 1 = a by omega]; exact IntWalk.i64_in _ (by omega)
          have s7 : IntKind.i64.wrap (a : Int) = (a : Int) := IntWalk.i64_in _ (by omega)
          have s8 : 0 ≤ (a : Int) := by omega
          have s6 : decide ((a : Int) + 1 > 0) = true := decide_eq_true (by omega)
          rw [show ((a + 1 : Nat) : Int) = (a : Int) + 1 from by omega]
          go_upto_region 4 with (fail)
          go_cut [34] from 18 to 34 (fun v34 wx => v34 = .bool (wsLt c x y) ∧ Below wr.heap.size wr wx)
          case first =>
            go_region_held3 (fun w' => w'.cell? ⟨gb, a * 3, none⟩ = some (.string y.node) ∧ w'.cell? ⟨gb, a * 3 + 1, none⟩ = some (.string y.name) ∧ w'.cell? ⟨gb, a * 3 + 2, none⟩ = some (.int .i64 y.joined) ∧ w'.cell? ⟨gb, (a + 1) * 3, none⟩ = some (.string x.node) ∧ w'.cell? ⟨gb, (a + 1) * 3 + 1, none⟩ = some (.string x.name) ∧ w'.cell? ⟨gb, (a + 1) * 3 + 2, none⟩ = some (.int .i64 x.joined)) ((repeat' apply And.intro) <;> (first | (go_simp; done) | with_reducible assumption)) (first | (go_at_fn g; refine HC.mono ?_; rintro e w1 ⟨rfl, hb1⟩; have e0 := (hb1.cell (p := ⟨gb, a * 3, none⟩) hgl).trans c0; have e1 := (hb1.cell (p := ⟨gb, a * 3 + 1, none⟩) hgl).trans c1; have e2 := (hb1.cell (p := ⟨gb, a * 3 + 2, none⟩) hgl).trans c2; have f0 := (hb1.cell (p := ⟨gb, (a + 1) * 3, none⟩) hgl).trans b0; have f1 := (hb1.cell (p := ⟨gb, (a + 1) * 3 + 1, none⟩) hgl).trans b1; have f2 := (hb1.cell (p := ⟨gb, (a + 1) * 3 + 2, none⟩) hgl).trans b2))
            all_goals (
              go_wp2_with fail
              go_meet
              exact ⟨rfl, ⟨hb1.os, hb1.tape, hb1.output, hb1.size, hb1.block⟩⟩)
          obtain ⟨rfl, hbc⟩ := hcut
          have hsoc := HSO.out.below hbc
          clear c0 c1 c2 b0 b1 b2 hgl HC
          cases hq : wsLt c x y
          · have HSC := Lib.hid hsoc
            clear hsoc hbc
            go_wp2_with fail
            go_roundw
            case rel => exact ⟨i + 1, by go_num, by omega, by omega, by rw [HD.out (fun z hz => by rw [List.getLast?_append, List.getLast?_singleton] at hz; simp at hz; rw [← hz]; exact hq)]; exact HSC.out⟩
            case measure => simp [intOf]; omega
          · have hcy := ws_cells (hsoc.cells (i := A'.length) (x := y) (by simp) (by rw [HME.out]; exact at_here _ _ _ _))
            have hcx := ws_cells (hsoc.cells (i := A'.length + 1) (x := x) (by simp) (by rw [show A'.length + 1 = (A' ++ [y]).length by simp]; exact at_here _ _ _ _))
            rw [HALN.out] at hcy hcx
            obtain ⟨c0, c1, c2⟩ := hcy
            obtain ⟨b0, b1, b2⟩ := hcx
            have hown' := hsoc.2
            have y0 := rw_froz hown' (a * 3)
            have z0 := rw_froz hown' ((a + 1) * 3)
            have y1 := rw_froz hown' (a * 3 + 1)
            have z1 := rw_froz hown' ((a + 1) * 3 + 1)
            have y2 := rw_froz hown' (a * 3 + 2)
            have z2 := rw_froz hown' ((a + 1) * 3 + 2)
            have hput1 := rw_put wsC_len hsoc.2 (a + 1) y (by rw [HML.out]; omega)
            have hput2 := rw_put wsC_len hput1 a x (by rw [List.length_set, HML.out]; omega)
            have hgr : w.grownBy ((wc.setCells gb ((a + 1) * 3) (wsC y)).setCells gb (a * 3) (wsC x)) (some gb) := rw_gsets _ _ _ (rw_gsets _ _ _ hsoc.1)
            have hsw : ((A' ++ [y] ++ x :: (B ++ R)).set (a + 1) y).set a x = A' ++ x :: ((y :: B) ++ R) := by
              rw [HME.out, ← HALN.out, swap_at]
              rfl
            rw [hsw] at hput2
            have hnew : wsSo w gb cap (A' ++ x :: ((y :: B) ++ R)) ((wc.setCells gb ((a + 1) * 3) (wsC y)).setCells gb (a * 3) (wsC x)) := ⟨hgr, hput2⟩
            have HN := Lib.hid hnew
            clear hnew hput1 hput2 hgr hsw hsoc hown' hbc
            go_wp2_with fail
            go_region_law (go_simp)
            all_goals (
              go_wp2_with fail
              go_roundw
              case rel => exact ⟨A', y :: B, by rw [HAB.out]; simp, fun z hz => by
                rcases List.mem_cons.1 hz with hz | hz
                · rw [hz]; exact hq
                · exact HB.out z hz, by rw [HALN.out], HN.out.drew⟩
              case measure => simp [intOf])
    · have HIT := Lib.hid (show wsSo w gb cap (isortL (wsLt c) L) wr by
        rw [List.take_of_length_le (by omega), List.drop_of_length_le (by omega), List.append_nil] at hit
        exact hit)
      clear hit
      have hd : decide ((i : Int) < (L.length : Int)) = false := by simp; omega
      go_wp2_with fail
      go_end0
      exact ⟨rfl, HIT.out⟩

/-- The row, sorted, wherever it lies. -/
def wsSoA (w : World) (A : Option Addr) (cap : Nat) (M : List Wi) (wr : World) : Prop := w.grownBy wr (Value.slice A M.length cap).ownBlock ∧ wsOwn wr 0 (.slice A M.length cap) M
set_option maxRecDepth 100000 in
set_option maxHeartbeats 400000 in
theorem ws_insAny (A : Option Addr) (cap : Nat) (L : List Wi) (g : Nat) (lb : Array Value) (c : Wi → Wi → Int) (w : World) (eg : ∀ args w, (callFunc g args).run Tryz.prog w = .ok (.enter g args) w)
    (h : wsOwn w 0 (.slice A L.length cap) L) (hl : L.length ≤ 1000000) (hp : ∀ wr, w.grownBy wr (Value.slice A L.length cap).ownBlock → wsCmp g lb c L wr) :
    Calls Tryz.prog 88 #[.slice A L.length cap, .int .i64 0, .int .i64 L.length, .func (.func g) #[] lb] w
      fun e w' => e = .returned (.tuple #[]) ∧ wsSoA w A cap (isortL (wsLt c) L) w' := by
  rcases h.2 with ⟨h1, h2⟩ | ⟨gb, cap', cur, h1, _⟩
  · have : L = [] := List.length_eq_zero_iff.1 h2
    subst this
    have HR := Lib.hid (show wsSoA w A cap (isortL (wsLt c) []) w from ⟨World.grownBy.refl _ _, h⟩)
    clear hp h h1 h2
    go_enter Tryz.func88, Tryz.ntmps88
    go_wp2_with fail
    go_loopw [8] (fun v8 wr => v8 = .int .i64 1 ∧ wr = w) (fun _ _ => 0)
    case atStart => exact ⟨rfl, rfl⟩
    case round =>
      obtain ⟨rfl, rfl⟩ := hrel
      have hd : decide ((1 : Int) < (([] : List Wi).length : Int)) = false := by decide
      go_wp2_with fail
      go_end0
      exact ⟨rfl, HR.out⟩
  · injection h1 with h1
    subst h1
    refine (ws_insertion gb cap L g lb c w eg h hl hp).mono ?_
    rintro e w' ⟨rfl, h1, h2⟩
    refine ⟨rfl, ?_, h2⟩
    exact h1

set_option maxRecDepth 100000 in
set_option maxHeartbeats 1000000 in
theorem ws_stable (A : Option Addr) (cap : Nat) (L : List Wi) (g : Nat) (lb : Array Value) (c : Wi → Wi → Int) (w : World) (eg : ∀ args w, (callFunc g args).run Tryz.prog w = .ok (.enter g args) w)
    (h : wsOwn w 0 (.slice A L.length cap) L) (hl : L.length ≤ 19) (hp : ∀ wr, w.grownBy wr (Value.slice A L.length cap).ownBlock → wsCmp g lb c L wr) :
    Calls Tryz.prog 56 #[.slice A L.length cap, .int .i64 L.length, .func (.func g) #[] lb] w
      fun e w' => e = .returned (.tuple #[]) ∧ wsSoA w A cap (isortL (wsLt c) L) w' := by
  have hi := ws_insAny A cap L g lb c w eg h (by omega) hp
  have h20 : decide ((20 : Int) ≤ (L.length : Int)) = false := by simp; omega
  have h21 : decide ((20 : Int) < (L.length : Int)) = false := by simp; omega
  clear h hp
  go_enter Tryz.func56, Tryz.ntmps56
  go_wp2_with fail
  go_loopw [7, 8] (fun v7 v8 wr => v7 = .int .i64 0 ∧ v8 = .int .i64 20 ∧ wr = w) (fun _ _ _ => 0)
  case atStart => exact ⟨rfl, rfl, rfl⟩
  case round =>
    obtain ⟨rfl, rfl, rfl⟩ := hrel
    go_wp2_with fail
    refine hi.mono ?_
    rintro e w2 ⟨rfl, h2⟩
    clear hi
    go_wp2_with fail
    go_loopw [6] (fun v6 wr => v6 = .int .i64 20 ∧ wr = w2) (fun _ _ => 0)
    case atStart => exact ⟨rfl, rfl⟩
    case round =>
      obtain ⟨rfl, rfl⟩ := hrel
      go_wp2_with fail
      go_end0
      exact ⟨rfl, h2⟩
theorem ws_sortStable (A : Option Addr) (cap : Nat) (L : List Wi) (g : Nat) (lb : Array Value) (c : Wi → Wi → Int) (w : World) (eg : ∀ args w, (callFunc g args).run Tryz.prog w = .ok (.enter g args) w)
    (h : wsOwn w 0 (.slice A L.length cap) L) (hl : L.length ≤ 19) (hp : ∀ wr, w.grownBy wr (Value.slice A L.length cap).ownBlock → wsCmp g lb c L wr) :
    Calls Tryz.prog 25 #[.slice A L.length cap, .func (.func g) #[] lb] w
      fun e w' => e = .returned (.tuple #[]) ∧ wsSoA w A cap (isortL (wsLt c) L) w' := by
  have hi := ws_stable A cap L g lb c w eg h hl hp
  clear h hp
  go_enter Tryz.func25, Tryz.ntmps25
  go_wp2_with fail
  refine hi.mono ?_
  rintro e w2 ⟨rfl, h2⟩
  go_wp2_with fail
  go_end0
  exact ⟨rfl, h2⟩

end Go.Proofs.YtcgligfkpfjcpaaGreatDoor
