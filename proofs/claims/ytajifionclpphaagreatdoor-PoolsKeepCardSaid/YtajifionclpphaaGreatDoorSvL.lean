/- slices.BinarySearchFunc over ranges; Spans.Has. Spans.Has. addr.checkSets, Union, Both, Without, Rest, Covers. addr.Has, Ranges, Span, Least. addr.checkPrefixes, Least. -/
import Derived.Test.YtajifionclpphaaGreatDoorSvG
namespace Go.Proofs.YtajifionclpphaaGreatDoor
open Go.RowKit Go.Hw
end Go.Proofs.YtajifionclpphaaGreatDoor

namespace Go.Proofs.YtajifionclpphaaGreatDoor
open Go.RowKit Go.Hw
end Go.Proofs.YtajifionclpphaaGreatDoor

namespace Go.Proofs.YtajifionclpphaaGreatDoor
open Go.RowKit Go.Hw
theorem rg_own {w : World} {base : Nat} {v : Value} {R : List Rg} (h : rgOwn w base v R) : ∃ A cap, v = .slice A R.length cap ∧ rgAt w A R ∧ (A = none → R = [] ∧ cap = 0) := by
  obtain ⟨A, cap, rfl, ha⟩ := rw_at (d := noRg) rgC_len h
  refine ⟨A, cap, rfl, ha, fun hn => ?_⟩
  subst hn
  rcases h.2 with ⟨e, h⟩ | ⟨g, cp, cur, e, _⟩
  · injection e with _ _ e3
    exact ⟨List.length_eq_zero_iff.1 h, e3⟩
  · cases e
theorem px_own {w : World} {base : Nat} {v : Value} {R : List Pf} (h : pxOwn w base v R) : ∃ A cap, v = .slice A R.length cap ∧ pxAt w A R ∧ (A = none → R = [] ∧ cap = 0) := by
  obtain ⟨A, cap, rfl, ha⟩ := rw_at (d := noPf) pxC_len h
  refine ⟨A, cap, rfl, ha, fun hn => ?_⟩
  subst hn
  rcases h.2 with ⟨e, h⟩ | ⟨g, cp, cur, e, _⟩
  · injection e with _ _ e3
    exact ⟨List.length_eq_zero_iff.1 h, e3⟩
  · cases e
/-- The ranges of a right row. -/
theorem SetIs.rgs {P : List Pf} {S : List Sn} {R : List Rg} (h : SetIs P S) (k : SetR R (P.map bkP)) : RgsIs R S := ⟨k.ok, h.ranges k, h.norm⟩
theorem SetIs.row {P : List Pf} {S : List Sn} (h : SetIs P S) : RowB (P.map bkP) := by rw [h.map]; exact preS_row h.norm
theorem SetIs.als {P : List Pf} {S : List Sn} (h : SetIs P S) : ∀ b ∈ P.map bkP, alB b := fun b hb => (h.row.al b hb).1
theorem SetIs.bl {P : List Pf} {S : List Sn} (h : SetIs P S) (n : Nat) : hasS ((P.map bkP).map bkS) n ↔ hasS S n := by rw [h.map]; exact preS_has n
theorem set_inU {S : List Sn} (hf : ∀ x ∈ S, famOk x) {k : Nat} (h : hasS S k) : inU k := by
  obtain ⟨x, hx, h1, h2⟩ := h
  unfold inU
  rcases hf x hx with ⟨h3, h4⟩ | ⟨h3, h4⟩
  · exact .inl (by omega)
  · refine .inr ⟨?_, by omega⟩
    unfold sixS at h3
    have := of_decide_eq_true h3
    omega
/-- What an operation over sets hands back: the set, or that it is too large. -/
def SetOp (w : World) (p : Nat → Prop) (e : Ending) (w' : World) : Prop := ∃ T, (∀ k, hasS T k ↔ p k) ∧ NormS T ∧ (∀ x ∈ T, famOk x) ∧ SetOut w T e w'
set_option maxRecDepth 100000 in
set_option maxHeartbeats 1000000 in
theorem checkSets_any (g : Nat) (A B : Option Addr) (ca cb : Nat) (L M : List Pf) (SA SB : List Sn) (w : World) (hA : pxAt w A L) (hB : pxAt w B M) (hL : SetIs L SA) (hM : SetIs M SB) (h1 : L.length ≤ 1000) (h2 : M.length ≤ 1000) (hg : w.heap[g]? = some (.cells #[.slice A L.length ca, .slice B M.length cb] 26 (0, 0))) :
    Calls Tryz.prog 37 #[.slice (some ⟨g, 0, none⟩) 2 2] w fun e w' => e = .returned (.int .i64 0) ∧ Below w.heap.size w w' := by
  have HA := Lib.hid hA
  have HB := Lib.hid hB
  have HL := Lib.hid hL
  have HM := Lib.hid hM
  have HG := Lib.hid hg
  clear hA hB hL hM hg
  go_enter Tryz.func37, Tryz.ntmps37
  go_wp2_with fail
  go_loopw [4, 5, 8] (fun _ _ v8 wr => ∃ k : Nat, k ≤ 2 ∧ v8 = .int .i64 k ∧ Below w.heap.size w wr) (fun _ _ v8 _ => 2 - (intOf v8).toNat)
  case atStart => exact ⟨0, by omega, rfl, Below.refl _ _⟩
  case round =>
    obtain ⟨k, hk, rfl, hb⟩ := hrel
    have HBW := Lib.hid hb
    have hgw := (hb.block _ (lt_of_block HG.out)).trans HG.out
    obtain ⟨⟨c0, c1⟩, -⟩ := res2 hgw
    by_cases hlt : k < 2
    · have : k = 0 ∨ k = 1 := by omega
      have hcA := checkSet_any A ca L SA wr (HA.out.below hb) HL.out h1
      have hcB := checkSet_any B cb M SB wr (HB.out.below hb) HM.out h2
      clear hgw hb
      rcases this with rfl | rfl
      · go_wp2_with fail
        refine hcA.mono ?_
        rintro e w2 ⟨rfl, hb2⟩
        have HB2 := Lib.hid (HBW.out.trans (hb2.mono HBW.out.size))
        clear hb2 hcA hcB
        go_wp2_with fail
        exact ⟨⟨1, by omega, by simp, HB2.out⟩, by simp [intOf]⟩
      · go_wp2_with fail
        refine hcB.mono ?_
        rintro e w2 ⟨rfl, hb2⟩
        have HB2 := Lib.hid (HBW.out.trans (hb2.mono HBW.out.size))
        clear hb2 hcA hcB
        go_wp2_with fail
        exact ⟨⟨2, by omega, by simp, HB2.out⟩, by simp [intOf]⟩
    · have : k = 2 := by omega
      subst this
      clear hb hgw
      go_wp2_with fail
      go_ret
      exact ⟨rfl, HBW.out⟩

set_option maxRecDepth 100000 in
set_option maxHeartbeats 4000000 in
theorem without_set (A B : Option Addr) (ca cb : Nat) (L M : List Pf) (SA SB : List Sn) (w : World) (hA : pxAt w A L) (hB : pxAt w B M) (hL : SetIs L SA) (hM : SetIs M SB) (h1 : L.length ≤ 1000) (h2 : M.length ≤ 1000) :
    Calls Tryz.prog 11 #[.slice A L.length ca, .slice B M.length cb] w fun e w' => SetOp w (fun k => hasS SA k ∧ ¬ hasS SB k) e w' := by
  have HB0 := Lib.hid ((Below.refl w.heap.size w).alloc (Nat.le_refl _) (.cells #[.slice A L.length ca, .slice B M.length cb] 26 (0, 0)))
  have hck := checkSets_any w.heap.size A B ca cb L M SA SB _ (hA.below HB0.out) (hB.below HB0.out) hL hM h1 h2 (heap_alloc_new w _)
  have HA := Lib.hid hA
  have HB := Lib.hid hB
  have HL := Lib.hid hL
  have HM := Lib.hid hM
  clear hA hB hL hM
  go_enter Tryz.func11, Tryz.ntmps11
  go_wp2_with fail
  refine hck.mono ?_
  rintro e W1 ⟨rfl, hb1⟩
  have HB1 := Lib.hid (HB0.out.trans (hb1.mono HB0.out.size))
  clear hck hb1 HB0
  have hof := spanOf_any A ca L W1 ((HA.out.below HB1.out)) HL.out.ok (by omega)
  go_wp2_with fail
  refine hof.mono ?_
  rintro e W2 ⟨va, RA, rfl, hoRA, hrRA, hlRA, hbRA⟩
  have HB2 := Lib.hid (HB1.out.trans (hbRA.mono HB1.out.size))
  have HIRA := Lib.hid (HL.out.rgs hrRA)
  have HORA := Lib.hid hoRA
  have HNRA : Hid (RA.length ≤ 1000) := Lib.hid (by omega)
  have HWRA := Lib.hid HB1.out.size
  clear hof hrRA hlRA hoRA
  clear hbRA
  have hof := spanOf_any B cb M W2 ((HB.out.below HB2.out)) HM.out.ok (by omega)
  go_wp2_with fail
  refine hof.mono ?_
  rintro e W3 ⟨vb, RB, rfl, hoRB, hrRB, hlRB, hbRB⟩
  have HB3 := Lib.hid (HB2.out.trans (hbRB.mono HB2.out.size))
  have HIRB := Lib.hid (HM.out.rgs hrRB)
  have HORB := Lib.hid hoRB
  have HNRB : Hid (RB.length ≤ 1000) := Lib.hid (by omega)
  have HWRB := Lib.hid HB2.out.size
  clear hof hrRB hlRB hoRB
  have HORA2 := Lib.hid (own_belowR HORA.out hbRB (Nat.le_refl _))
  obtain ⟨A5, c5, rfl, ha5, hn5⟩ := rg_own HORB.out
  have hrs := rest_any A5 c5 RB SB W3 ha5 HIRB.out (by have := HNRB.out; omega)
  clear hbRB ha5 hn5
  go_wp2_with fail
  refine hrs.mono ?_
  rintro e W4 ⟨v5, R5, rfl, ho5, hi5, hb5⟩
  have HB4 := Lib.hid (HB3.out.trans (hb5.mono HB3.out.size))
  have HI5 := Lib.hid hi5
  have HO5 := Lib.hid ho5
  have HN5 : Hid (R5.length ≤ 2002) := Lib.hid (by
    have e1 : R5.length = (restS SB).length := by rw [← hi5.map, List.length_map]
    have e2 : RB.length = (SB).length := by rw [← HIRB.out.map, List.length_map]
    have e3 := outR_len SB 2
    have e4 : outR SB 2 = restS SB := rfl
    have e5 := HNRB.out
    rw [e4] at e3
    omega)
  clear hrs ho5 hi5
  have HORA3 := Lib.hid (own_belowR HORA2.out hb5 (Nat.le_refl _))
  obtain ⟨A6, c6, rfl, ha6, -⟩ := rg_own HORA3.out
  obtain ⟨A7, c7, rfl, ha7, -⟩ := rg_own HO5.out
  have hor := both_any2 A6 A7 c6 c7 RA R5 SA (restS SB) W4 ha6 ha7 HIRA.out HI5.out (by have := HNRA.out; omega) (by have := HN5.out; omega)
  clear hb5 ha6 ha7
  go_wp2_with fail
  refine hor.mono ?_
  rintro e W6 ⟨v6, R6, S6, rfl, hoF, hi6, hs6, hl6, hb6⟩
  have HBF := Lib.hid (HB4.out.trans (hb6.mono HB4.out.size))
  have HIF := Lib.hid hi6
  have hlr : R6.length ≤ 4000 := by have := HNRA.out; have := HN5.out; omega
  have HSP : Hid (∀ k, hasS S6 k ↔ hasS SA k ∧ ¬ hasS SB k) := Lib.hid (fun k => by
    have h9 := hs6 k
    dsimp only at h9
    rw [h9, (restS_law HM.out.norm HM.out.fam).2.1 k]
    constructor
    · rintro ⟨h1, _, h2⟩
      exact ⟨h1, h2⟩
    · rintro ⟨h1, h2⟩
      exact ⟨h1, set_inU HL.out.fam h1, h2⟩)
  clear hor hi6 hs6 hl6 hb6
  obtain ⟨A9, c9, rfl, ha9, -⟩ := rg_own hoF
  have hst := set_any A9 c9 R6 W6 ha9 HIF.out.ok (by rw [HIF.out.map]; exact HIF.out.norm) (by rw [HIF.out.map]; have := less_many HL.out.row HM.out.als HIF.out.norm HIF.out.fam (fun n => by rw [HL.out.bl, HM.out.bl]; exact HSP.out n); simp at this; omega) (by omega)
  rw [HIF.out.map] at hst
  clear hoF ha9
  go_wp2_with fail
  refine hst.mono ?_
  rintro e W9 ⟨v9, c, P9, rfl, ho9, hb9, h9⟩
  have H9 : Hid (SetOp w (fun k => hasS SA k ∧ ¬ hasS SB k) (.returned (.tuple #[v9, .int .i64 c])) W9) := Lib.hid ⟨S6, HSP.out, HIF.out.norm, HIF.out.fam, v9, c, P9, rfl, own_base ho9 HBF.out.size, HBF.out.trans (hb9.mono HBF.out.size), h9⟩
  clear ho9 hb9 h9 hst
  go_wp2_with fail
  go_ret2
  exact H9.out
set_option maxRecDepth 100000 in
set_option maxHeartbeats 4000000 in
theorem covers_set (A B : Option Addr) (ca cb : Nat) (L M : List Pf) (SA SB : List Sn) (w : World) (hA : pxAt w A L) (hB : pxAt w B M) (hL : SetIs L SA) (hM : SetIs M SB) (h1 : L.length ≤ 1000) (h2 : M.length ≤ 1000) :
    Calls Tryz.prog 16 #[.slice A L.length ca, .slice B M.length cb] w fun e w' => ∃ b T, e = .returned (.tuple #[.bool b, .int .i64 0]) ∧ (∀ k, hasS T k ↔ hasS SB k ∧ ¬ hasS SA k) ∧ NormS T ∧ (b = true ↔ T = []) ∧ Below w.heap.size w w' := by
  have HB0 := Lib.hid ((Below.refl w.heap.size w).alloc (Nat.le_refl _) (.cells #[.slice A L.length ca, .slice B M.length cb] 26 (0, 0)))
  have hck := checkSets_any w.heap.size A B ca cb L M SA SB _ (hA.below HB0.out) (hB.below HB0.out) hL hM h1 h2 (heap_alloc_new w _)
  have HA := Lib.hid hA
  have HB := Lib.hid hB
  have HL := Lib.hid hL
  have HM := Lib.hid hM
  clear hA hB hL hM
  go_enter Tryz.func16, Tryz.ntmps16
  go_wp2_with fail
  refine hck.mono ?_
  rintro e W1 ⟨rfl, hb1⟩
  have HB1 := Lib.hid (HB0.out.trans (hb1.mono HB0.out.size))
  clear hck hb1 HB0
  have hof := spanOf_any B cb M W1 ((HB.out.below HB1.out)) HM.out.ok (by omega)
  go_wp2_with fail
  refine hof.mono ?_
  rintro e W2 ⟨vb, RB, rfl, hoRB, hrRB, hlRB, hbRB⟩
  have HB2 := Lib.hid (HB1.out.trans (hbRB.mono HB1.out.size))
  have HIRB := Lib.hid (HM.out.rgs hrRB)
  have HORB := Lib.hid hoRB
  have HNRB : Hid (RB.length ≤ 1000) := Lib.hid (by omega)
  have HWRB := Lib.hid HB1.out.size
  clear hof hrRB hlRB hoRB
  clear hbRB
  have hof := spanOf_any A ca L W2 ((HA.out.below HB2.out)) HL.out.ok (by omega)
  go_wp2_with fail
  refine hof.mono ?_
  rintro e W3 ⟨va, RA, rfl, hoRA, hrRA, hlRA, hbRA⟩
  have HB3 := Lib.hid (HB2.out.trans (hbRA.mono HB2.out.size))
  have HIRA := Lib.hid (HL.out.rgs hrRA)
  have HORA := Lib.hid hoRA
  have HNRA : Hid (RA.length ≤ 1000) := Lib.hid (by omega)
  have HWRA := Lib.hid HB2.out.size
  clear hof hrRA hlRA hoRA
  have HORB2 := Lib.hid (own_belowR HORB.out hbRA (Nat.le_refl _))
  obtain ⟨A5, c5, rfl, ha5, hn5⟩ := rg_own HORA.out
  have hrs := rest_any A5 c5 RA SA W3 ha5 HIRA.out (by have := HNRA.out; omega)
  clear hbRA ha5 hn5
  go_wp2_with fail
  refine hrs.mono ?_
  rintro e W4 ⟨v5, R5, rfl, ho5, hi5, hb5⟩
  have HB4 := Lib.hid (HB3.out.trans (hb5.mono HB3.out.size))
  have HI5 := Lib.hid hi5
  have HO5 := Lib.hid ho5
  have HN5 : Hid (R5.length ≤ 2002) := Lib.hid (by
    have e1 : R5.length = (restS SA).length := by rw [← hi5.map, List.length_map]
    have e2 : RA.length = (SA).length := by rw [← HIRA.out.map, List.length_map]
    have e3 := outR_len SA 2
    have e4 : outR SA 2 = restS SA := rfl
    have e5 := HNRA.out
    rw [e4] at e3
    omega)
  clear hrs ho5 hi5
  have HORB3 := Lib.hid (own_belowR HORB2.out hb5 (Nat.le_refl _))
  obtain ⟨A6, c6, rfl, ha6, -⟩ := rg_own HORB3.out
  obtain ⟨A7, c7, rfl, ha7, -⟩ := rg_own HO5.out
  have hor := both_any2 A6 A7 c6 c7 RB R5 SB (restS SA) W4 ha6 ha7 HIRB.out HI5.out (by have := HNRB.out; omega) (by have := HN5.out; omega)
  clear hb5 ha6 ha7
  go_wp2_with fail
  refine hor.mono ?_
  rintro e W6 ⟨v6, R6, S6, rfl, hoF, hi6, hs6, hl6, hb6⟩
  have HBF := Lib.hid (HB4.out.trans (hb6.mono HB4.out.size))
  have HIF := Lib.hid hi6
  have HSP : Hid (∀ k, hasS S6 k ↔ hasS SB k ∧ ¬ hasS SA k) := Lib.hid (fun k => by
    have h9 := hs6 k
    dsimp only at h9
    rw [h9, (restS_law HL.out.norm HL.out.fam).2.1 k]
    constructor
    · rintro ⟨h1, _, h2⟩
      exact ⟨h1, h2⟩
    · rintro ⟨h1, h2⟩
      exact ⟨h1, set_inU HM.out.fam h1, h2⟩)
  have HSL : Hid (S6.length = R6.length) := Lib.hid (by rw [← hi6.map, List.length_map])
  obtain ⟨A9, c9, rfl, -, -⟩ := rg_own hoF
  obtain ⟨b, hb⟩ : ∃ b, ((R6.length : Int) == 0) = b := ⟨_, rfl⟩
  have HBB := Lib.hid hb
  have hlr : R6.length ≤ 4000 := by have := HNRB.out; have := HN5.out; omega
  clear hor hi6 hs6 hl6 hb6 hoF
  go_wp2_with fail
  go_ret2
  refine ⟨b, S6, rfl, HSP.out, HIF.out.norm, ?_, HBF.out⟩
  rw [← HBB.out, ← List.length_eq_zero_iff, HSL.out, beq_iff_eq]
  omega
end Go.Proofs.YtajifionclpphaaGreatDoor

namespace Go.Proofs.YtajifionclpphaaGreatDoor
open Go.RowKit Go.Hw
end Go.Proofs.YtajifionclpphaaGreatDoor

namespace Go.Proofs.YtajifionclpphaaGreatDoor
open Go.RowKit Go.Hw
end Go.Proofs.YtajifionclpphaaGreatDoor
