/- addr.checkSets, Union, Both, Without, Rest, Covers. addr.Has, Ranges, Span, Least. addr.checkPrefixes, Least. -/
import Derived.Test.YtcmfkheohhfpiaaGreatDoorSvI
namespace Go.Proofs.YtcmfkheohhfpiaaGreatDoor
open Go.RowKit Go.Hw
theorem rg_own {w : World} {base : Nat} {v : Value} {R : List Rg} (h : rgOwn w base v R) : ∃ A cap, v = .slice A R.length cap ∧ rgAt w A R ∧ (A = none → R = [] ∧ cap = 0) := by
  obtain ⟨A, cap, rfl, ha⟩ := rw_at (d := noRg) rgC_len h
  refine ⟨A, cap, rfl, ha, fun hn => ?_⟩
  subst hn
  rcases h.2 with ⟨e, h⟩ | ⟨g, cp, cur, e, _⟩
  · injection e with _ _ e3
    exact ⟨List.length_eq_zero_iff.1 h, e3⟩
  · cases e
theorem px_own {w : World} {base : Nat} {v : Value} {R : List Pf} (h : pxOwn w base v R) : ∃ A cap, v = .slice A R.length cap ∧ pxAt w A R ∧ (A = none → R = [] ∧ cap = 0) := by
  obtain ⟨A, cap, rfl, ha⟩ := rw_at (d := noPf) pxC_len h
  refine ⟨A, cap, rfl, ha, fun hn => ?_⟩
  subst hn
  rcases h.2 with ⟨e, h⟩ | ⟨g, cp, cur, e, _⟩
  · injection e with _ _ e3
    exact ⟨List.length_eq_zero_iff.1 h, e3⟩
  · cases e
/-- The ranges of a right row. -/
theorem SetIs.rgs {P : List Pf} {S : List Sn} {R : List Rg} (h : SetIs P S) (k : SetR R (P.map bkP)) : RgsIs R S := ⟨k.ok, h.ranges k, h.norm⟩
theorem SetIs.row {P : List Pf} {S : List Sn} (h : SetIs P S) : RowB (P.map bkP) := by rw [h.map]; exact preS_row h.norm
theorem SetIs.als {P : List Pf} {S : List Sn} (h : SetIs P S) : ∀ b ∈ P.map bkP, alB b := fun b hb => (h.row.al b hb).1
theorem SetIs.bl {P : List Pf} {S : List Sn} (h : SetIs P S) (n : Nat) : hasS ((P.map bkP).map bkS) n ↔ hasS S n := by rw [h.map]; exact preS_has n
theorem set_inU {S : List Sn} (hf : ∀ x ∈ S, famOk x) {k : Nat} (h : hasS S k) : inU k := by
  obtain ⟨x, hx, h1, h2⟩ := h
  unfold inU
  rcases hf x hx with ⟨h3, h4⟩ | ⟨h3, h4⟩
  · exact .inl (by omega)
  · refine .inr ⟨?_, by omega⟩
    unfold sixS at h3
    have := of_decide_eq_true h3
    omega
/-- What an operation over sets hands back: the set, or that it is too large. -/
def SetOp (w : World) (p : Nat → Prop) (e : Ending) (w' : World) : Prop := ∃ T, (∀ k, hasS T k ↔ p k) ∧ NormS T ∧ (∀ x ∈ T, famOk x) ∧ SetOut w T e w'
set_option maxRecDepth 100000 in
set_option maxHeartbeats 1000000 in
theorem checkSets_any (g : Nat) (A B : Option Addr) (ca cb : Nat) (L M : List Pf) (SA SB : List Sn) (w : World) (hA : pxAt w A L) (hB : pxAt w B M) (hL : SetIs L SA) (hM : SetIs M SB) (h1 : L.length ≤ 1000) (h2 : M.length ≤ 1000) (hg : w.heap[g]? = some (.cells #[.slice A L.length ca, .slice B M.length cb] 26 (0, 0))) :
    Calls Tryz.prog 31 #[.slice (some ⟨g, 0, none⟩) 2 2] w fun e w' => e = .returned (.int .i64 0) ∧ Below w.heap.size w w' := by
  have HA := Lib.hid hA
  have HB := Lib.hid hB
  have HL := Lib.hid hL
  have HM := Lib.hid hM
  have HG := Lib.hid hg
  clear hA hB hL hM hg
  go_enter Tryz.func31, Tryz.ntmps31
  go_wp2_with fail
  go_loopw [4, 5, 8] (fun _ _ v8 wr => ∃ k : Nat, k ≤ 2 ∧ v8 = .int .i64 k ∧ Below w.heap.size w wr) (fun _ _ v8 _ => 2 - (intOf v8).toNat)
  case atStart => exact ⟨0, by omega, rfl, Below.refl _ _⟩
  case round =>
    obtain ⟨k, hk, rfl, hb⟩ := hrel
    have HBW := Lib.hid hb
    have hgw := (hb.block _ (lt_of_block HG.out)).trans HG.out
    obtain ⟨⟨c0, c1⟩, -⟩ := res2 hgw
    by_cases hlt : k < 2
    · have : k = 0 ∨ k = 1 := by omega
      have hcA := checkSet_any A ca L SA wr (HA.out.below hb) HL.out h1
      have hcB := checkSet_any B cb M SB wr (HB.out.below hb) HM.out h2
      clear hgw hb
      rcases this with rfl | rfl
      · go_wp2_with fail
        refine hcA.mono ?_
        rintro e w2 ⟨rfl, hb2⟩
        have HB2 := Lib.hid (HBW.out.trans (hb2.mono HBW.out.size))
        clear hb2 hcA hcB
        go_wp2_with fail
        exact ⟨⟨1, by omega, by simp, HB2.out⟩, by simp [intOf]⟩
      · go_wp2_with fail
        refine hcB.mono ?_
        rintro e w2 ⟨rfl, hb2⟩
        have HB2 := Lib.hid (HBW.out.trans (hb2.mono HBW.out.size))
        clear hb2 hcA hcB
        go_wp2_with fail
        exact ⟨⟨2, by omega, by simp, HB2.out⟩, by simp [intOf]⟩
    · have : k = 2 := by omega
      subst this
      clear hb hgw
      go_wp2_with fail
      go_ret
      exact ⟨rfl, HBW.out⟩

set_option maxRecDepth 100000 in
set_option maxHeartbeats 4000000 in
theorem union_set (A B : Option Addr) (ca cb : Nat) (L M : List Pf) (SA SB : List Sn) (w : World) (hA : pxAt w A L) (hB : pxAt w B M) (hL : SetIs L SA) (hM : SetIs M SB) (h1 : L.length ≤ 1000) (h2 : M.length ≤ 1000) :
    Calls Tryz.prog 9 #[.slice A L.length ca, .slice B M.length cb] w fun e w' => SetOp w (fun k => hasS SA k ∨ hasS SB k) e w' := by
  have HB0 := Lib.hid ((Below.refl w.heap.size w).alloc (Nat.le_refl _) (.cells #[.slice A L.length ca, .slice B M.length cb] 26 (0, 0)))
  have hck := checkSets_any w.heap.size A B ca cb L M SA SB _ (hA.below HB0.out) (hB.below HB0.out) hL hM h1 h2 (heap_alloc_new w _)
  have HA := Lib.hid hA
  have HB := Lib.hid hB
  have HL := Lib.hid hL
  have HM := Lib.hid hM
  clear hA hB hL hM
  go_enter Tryz.func9, Tryz.ntmps9
  go_wp2_with fail
  refine hck.mono ?_
  rintro e W1 ⟨rfl, hb1⟩
  have HB1 := Lib.hid (HB0.out.trans (hb1.mono HB0.out.size))
  clear hck hb1 HB0
  have hof := spanOf_any A ca L W1 ((HA.out.below HB1.out)) HL.out.ok (by omega)
  go_wp2_with fail
  refine hof.mono ?_
  rintro e W2 ⟨va, RA, rfl, hoRA, hrRA, hlRA, hbRA⟩
  have HB2 := Lib.hid (HB1.out.trans (hbRA.mono HB1.out.size))
  have HIRA := Lib.hid (HL.out.rgs hrRA)
  have HORA := Lib.hid hoRA
  have HNRA : Hid (RA.length ≤ 1000) := Lib.hid (by omega)
  have HWRA := Lib.hid HB1.out.size
  clear hof hrRA hlRA hoRA
  clear hbRA
  have hof := spanOf_any B cb M W2 ((HB.out.below HB2.out)) HM.out.ok (by omega)
  go_wp2_with fail
  refine hof.mono ?_
  rintro e W3 ⟨vb, RB, rfl, hoRB, hrRB, hlRB, hbRB⟩
  have HB3 := Lib.hid (HB2.out.trans (hbRB.mono HB2.out.size))
  have HIRB := Lib.hid (HM.out.rgs hrRB)
  have HORB := Lib.hid hoRB
  have HNRB : Hid (RB.length ≤ 1000) := Lib.hid (by omega)
  have HWRB := Lib.hid HB2.out.size
  clear hof hrRB hlRB hoRB
  have HORA2 := Lib.hid (own_belowR HORA.out hbRB (Nat.le_refl _))
  obtain ⟨A4, c4, rfl, ha4, hn4⟩ := rg_own HORA2.out
  obtain ⟨A5, c5, rfl, ha5, hn5⟩ := rg_own HORB.out
  have hor := or_any2 A4 A5 c4 c5 RA RB W3 ha4 (fun h => (hn4 h).1) ha5 hn5 HIRA.out.ok HIRB.out.ok (by have := HNRA.out; omega) (by have := HNRB.out; omega)
  clear hbRB ha4 hn4 ha5 hn5
  go_wp2_with fail
  refine hor.mono ?_
  rintro e W4 ⟨v4, R4, S4, rfl, hoF, hi4, hs4, hl4, hb4⟩
  have HBF := Lib.hid (HB3.out.trans (hb4.mono HB3.out.size))
  have HIF := Lib.hid hi4
  have hlr : R4.length ≤ 2000 := by have := HNRA.out; have := HNRB.out; omega
  have HSP : Hid (∀ k, hasS S4 k ↔ hasS SA k ∨ hasS SB k) := Lib.hid (fun k => by rw [hs4 k, HIRA.out.map, HIRB.out.map])
  clear hor hi4 hs4 hl4 hb4
  obtain ⟨A9, c9, rfl, ha9, -⟩ := rg_own hoF
  have hst := set_any A9 c9 R4 W4 ha9 HIF.out.ok (by rw [HIF.out.map]; exact HIF.out.norm) (by rw [HIF.out.map]; have := join_many HL.out.als HM.out.als HIF.out.norm HIF.out.fam (fun n => by rw [HL.out.bl, HM.out.bl]; exact HSP.out n); simp at this; omega) (by omega)
  rw [HIF.out.map] at hst
  clear hoF ha9
  go_wp2_with fail
  refine hst.mono ?_
  rintro e W9 ⟨v9, c, P9, rfl, ho9, hb9, h9⟩
  have H9 : Hid (SetOp w (fun k => hasS SA k ∨ hasS SB k) (.returned (.tuple #[v9, .int .i64 c])) W9) := Lib.hid ⟨S4, HSP.out, HIF.out.norm, HIF.out.fam, v9, c, P9, rfl, own_base ho9 HBF.out.size, HBF.out.trans (hb9.mono HBF.out.size), h9⟩
  clear ho9 hb9 h9 hst
  go_wp2_with fail
  go_ret2
  exact H9.out
set_option maxRecDepth 100000 in
set_option maxHeartbeats 4000000 in
theorem both_set (A B : Option Addr) (ca cb : Nat) (L M : List Pf) (SA SB : List Sn) (w : World) (hA : pxAt w A L) (hB : pxAt w B M) (hL : SetIs L SA) (hM : SetIs M SB) (h1 : L.length ≤ 1000) (h2 : M.length ≤ 1000) :
    Calls Tryz.prog 10 #[.slice A L.length ca, .slice B M.length cb] w fun e w' => SetOp w (fun k => hasS SA k ∧ hasS SB k) e w' := by
  have HB0 := Lib.hid ((Below.refl w.heap.size w).alloc (Nat.le_refl _) (.cells #[.slice A L.length ca, .slice B M.length cb] 26 (0, 0)))
  have hck := checkSets_any w.heap.size A B ca cb L M SA SB _ (hA.below HB0.out) (hB.below HB0.out) hL hM h1 h2 (heap_alloc_new w _)
  have HA := Lib.hid hA
  have HB := Lib.hid hB
  have HL := Lib.hid hL
  have HM := Lib.hid hM
  clear hA hB hL hM
  go_enter Tryz.func10, Tryz.ntmps10
  go_wp2_with fail
  refine hck.mono ?_
  rintro e W1 ⟨rfl, hb1⟩
  have HB1 := Lib.hid (HB0.out.trans (hb1.mono HB0.out.size))
  clear hck hb1 HB0
  have hof := spanOf_any A ca L W1 ((HA.out.below HB1.out)) HL.out.ok (by omega)
  go_wp2_with fail
  refine hof.mono ?_
  rintro e W2 ⟨va, RA, rfl, hoRA, hrRA, hlRA, hbRA⟩
  have HB2 := Lib.hid (HB1.out.trans (hbRA.mono HB1.out.size))
  have HIRA := Lib.hid (HL.out.rgs hrRA)
  have HORA := Lib.hid hoRA
  have HNRA : Hid (RA.length ≤ 1000) := Lib.hid (by omega)
  have HWRA := Lib.hid HB1.out.size
  clear hof hrRA hlRA hoRA
  clear hbRA
  have hof := spanOf_any B cb M W2 ((HB.out.below HB2.out)) HM.out.ok (by omega)
  go_wp2_with fail
  refine hof.mono ?_
  rintro e W3 ⟨vb, RB, rfl, hoRB, hrRB, hlRB, hbRB⟩
  have HB3 := Lib.hid (HB2.out.trans (hbRB.mono HB2.out.size))
  have HIRB := Lib.hid (HM.out.rgs hrRB)
  have HORB := Lib.hid hoRB
  have HNRB : Hid (RB.length ≤ 1000) := Lib.hid (by omega)
  have HWRB := Lib.hid HB2.out.size
  clear hof hrRB hlRB hoRB
  have HORA2 := Lib.hid (own_belowR HORA.out hbRB (Nat.le_refl _))
  obtain ⟨A4, c4, rfl, ha4, hn4⟩ := rg_own HORA2.out
  obtain ⟨A5, c5, rfl, ha5, hn5⟩ := rg_own HORB.out
  have hor := both_any2 A4 A5 c4 c5 RA RB SA SB W3 ha4 ha5 HIRA.out HIRB.out (by have := HNRA.out; omega) (by have := HNRB.out; omega)
  clear hbRB ha4 hn4 ha5 hn5
  go_wp2_with fail
  refine hor.mono ?_
  rintro e W4 ⟨v4, R4, S4, rfl, hoF, hi4, hs4, hl4, hb4⟩
  have HBF := Lib.hid (HB3.out.trans (hb4.mono HB3.out.size))
  have HIF := Lib.hid hi4
  have hlr : R4.length ≤ 2000 := by have := HNRA.out; have := HNRB.out; omega
  have HSP : Hid (∀ k, hasS S4 k ↔ hasS SA k ∧ hasS SB k) := Lib.hid hs4
  clear hor hi4 hs4 hl4 hb4
  obtain ⟨A9, c9, rfl, ha9, -⟩ := rg_own hoF
  have hst := set_any A9 c9 R4 W4 ha9 HIF.out.ok (by rw [HIF.out.map]; exact HIF.out.norm) (by rw [HIF.out.map]; have := both_many HL.out.als HM.out.als HIF.out.norm HIF.out.fam (fun n => by rw [HL.out.bl, HM.out.bl]; exact HSP.out n); simp at this; omega) (by omega)
  rw [HIF.out.map] at hst
  clear hoF ha9
  go_wp2_with fail
  refine hst.mono ?_
  rintro e W9 ⟨v9, c, P9, rfl, ho9, hb9, h9⟩
  have H9 : Hid (SetOp w (fun k => hasS SA k ∧ hasS SB k) (.returned (.tuple #[v9, .int .i64 c])) W9) := Lib.hid ⟨S4, HSP.out, HIF.out.norm, HIF.out.fam, v9, c, P9, rfl, own_base ho9 HBF.out.size, HBF.out.trans (hb9.mono HBF.out.size), h9⟩
  clear ho9 hb9 h9 hst
  go_wp2_with fail
  go_ret2
  exact H9.out
set_option maxRecDepth 100000 in
set_option maxHeartbeats 4000000 in
theorem without_set (A B : Option Addr) (ca cb : Nat) (L M : List Pf) (SA SB : List Sn) (w : World) (hA : pxAt w A L) (hB : pxAt w B M) (hL : SetIs L SA) (hM : SetIs M SB) (h1 : L.length ≤ 1000) (h2 : M.length ≤ 1000) :
    Calls Tryz.prog 11 #[.slice A L.length ca, .slice B M.length cb] w fun e w' => SetOp w (fun k => hasS SA k ∧ ¬ hasS SB k) e w' := by
  have HB0 := Lib.hid ((Below.refl w.heap.size w).alloc (Nat.le_refl _) (.cells #[.slice A L.length ca, .slice B M.length cb] 26 (0, 0)))
  have hck := checkSets_any w.heap.size A B ca cb L M SA SB _ (hA.below HB0.out) (hB.below HB0.out) hL hM h1 h2 (heap_alloc_new w _)
  have HA := Lib.hid hA
  have HB := Lib.hid hB
  have HL := Lib.hid hL
  have HM := Lib.hid hM
  clear hA hB hL hM
  go_enter Tryz.func11, Tryz.ntmps11
  go_wp2_with fail
  refine hck.mono ?_
  rintro e W1 ⟨rfl, hb1⟩
  have HB1 := Lib.hid (HB0.out.trans (hb1.mono HB0.out.size))
  clear hck hb1 HB0
  have hof := spanOf_any A ca L W1 ((HA.out.below HB1.out)) HL.out.ok (by omega)
  go_wp2_with fail
  refine hof.mono ?_
  rintro e W2 ⟨va, RA, rfl, hoRA, hrRA, hlRA, hbRA⟩
  have HB2 := Lib.hid (HB1.out.trans (hbRA.mono HB1.out.size))
  have HIRA := Lib.hid (HL.out.rgs hrRA)
  have HORA := Lib.hid hoRA
  have HNRA : Hid (RA.length ≤ 1000) := Lib.hid (by omega)
  have HWRA := Lib.hid HB1.out.size
  clear hof hrRA hlRA hoRA
  clear hbRA
  have hof := spanOf_any B cb M W2 ((HB.out.below HB2.out)) HM.out.ok (by omega)
  go_wp2_with fail
  refine hof.mono ?_
  rintro e W3 ⟨vb, RB, rfl, hoRB, hrRB, hlRB, hbRB⟩
  have HB3 := Lib.hid (HB2.out.trans (hbRB.mono HB2.out.size))
  have HIRB := Lib.hid (HM.out.rgs hrRB)
  have HORB := Lib.hid hoRB
  have HNRB : Hid (RB.length ≤ 1000) := Lib.hid (by omega)
  have HWRB := Lib.hid HB2.out.size
  clear hof hrRB hlRB hoRB
  have HORA2 := Lib.hid (own_belowR HORA.out hbRB (Nat.le_refl _))
  obtain ⟨A5, c5, rfl, ha5, hn5⟩ := rg_own HORB.out
  have hrs := rest_any A5 c5 RB SB W3 ha5 HIRB.out (by have := HNRB.out; omega)
  clear hbRB ha5 hn5
  go_wp2_with fail
  refine hrs.mono ?_
  rintro e W4 ⟨v5, R5, rfl, ho5, hi5, hb5⟩
  have HB4 := Lib.hid (HB3.out.trans (hb5.mono HB3.out.size))
  have HI5 := Lib.hid hi5
  have HO5 := Lib.hid ho5
  have HN5 : Hid (R5.length ≤ 2002) := Lib.hid (by
    have e1 : R5.length = (restS SB).length := by rw [← hi5.map, List.length_map]
    have e2 : RB.length = (SB).length := by rw [← HIRB.out.map, List.length_map]
    have e3 := outR_len SB 2
    have e4 : outR SB 2 = restS SB := rfl
    have e5 := HNRB.out
    rw [e4] at e3
    omega)
  clear hrs ho5 hi5
  have HORA3 := Lib.hid (own_belowR HORA2.out hb5 (Nat.le_refl _))
  obtain ⟨A6, c6, rfl, ha6, -⟩ := rg_own HORA3.out
  obtain ⟨A7, c7, rfl, ha7, -⟩ := rg_own HO5.out
  have hor := both_any2 A6 A7 c6 c7 RA R5 SA (restS SB) W4 ha6 ha7 HIRA.out HI5.out (by have := HNRA.out; omega) (by have := HN5.out; omega)
  clear hb5 ha6 ha7
  go_wp2_with fail
  refine hor.mono ?_
  rintro e W6 ⟨v6, R6, S6, rfl, hoF, hi6, hs6, hl6, hb6⟩
  have HBF := Lib.hid (HB4.out.trans (hb6.mono HB4.out.size))
  have HIF := Lib.hid hi6
  have hlr : R6.length ≤ 4000 := by have := HNRA.out; have := HN5.out; omega
  have HSP : Hid (∀ k, hasS S6 k ↔ hasS SA k ∧ ¬ hasS SB k) := Lib.hid (fun k => by
    have h9 := hs6 k
    dsimp only at h9
    rw [h9, (restS_law HM.out.norm HM.out.fam).2.1 k]
    constructor
    · rintro ⟨h1, _, h2⟩
      exact ⟨h1, h2⟩
    · rintro ⟨h1, h2⟩
      exact ⟨h1, set_inU HL.out.fam h1, h2⟩)
  clear hor hi6 hs6 hl6 hb6
  obtain ⟨A9, c9, rfl, ha9, -⟩ := rg_own hoF
  have hst := set_any A9 c9 R6 W6 ha9 HIF.out.ok (by rw [HIF.out.map]; exact HIF.out.norm) (by rw [HIF.out.map]; have := less_many HL.out.row HM.out.als HIF.out.norm HIF.out.fam (fun n => by rw [HL.out.bl, HM.out.bl]; exact HSP.out n); simp at this; omega) (by omega)
  rw [HIF.out.map] at hst
  clear hoF ha9
  go_wp2_with fail
  refine hst.mono ?_
  rintro e W9 ⟨v9, c, P9, rfl, ho9, hb9, h9⟩
  have H9 : Hid (SetOp w (fun k => hasS SA k ∧ ¬ hasS SB k) (.returned (.tuple #[v9, .int .i64 c])) W9) := Lib.hid ⟨S6, HSP.out, HIF.out.norm, HIF.out.fam, v9, c, P9, rfl, own_base ho9 HBF.out.size, HBF.out.trans (hb9.mono HBF.out.size), h9⟩
  clear ho9 hb9 h9 hst
  go_wp2_with fail
  go_ret2
  exact H9.out
set_option maxRecDepth 100000 in
set_option maxHeartbeats 4000000 in
theorem covers_set (A B : Option Addr) (ca cb : Nat) (L M : List Pf) (SA SB : List Sn) (w : World) (hA : pxAt w A L) (hB : pxAt w B M) (hL : SetIs L SA) (hM : SetIs M SB) (h1 : L.length ≤ 1000) (h2 : M.length ≤ 1000) :
    Calls Tryz.prog 16 #[.slice A L.length ca, .slice B M.length cb] w fun e w' => ∃ b T, e = .returned (.tuple #[.bool b, .int .i64 0]) ∧ (∀ k, hasS T k ↔ hasS SB k ∧ ¬ hasS SA k) ∧ NormS T ∧ (b = true ↔ T = []) ∧ Below w.heap.size w w' := by
  have HB0 := Lib.hid ((Below.refl w.heap.size w).alloc (Nat.le_refl _) (.cells #[.slice A L.length ca, .slice B M.length cb] 26 (0, 0)))
  have hck := checkSets_any w.heap.size A B ca cb L M SA SB _ (hA.below HB0.out) (hB.below HB0.out) hL hM h1 h2 (heap_alloc_new w _)
  have HA := Lib.hid hA
  have HB := Lib.hid hB
  have HL := Lib.hid hL
  have HM := Lib.hid hM
  clear hA hB hL hM
  go_enter Tryz.func16, Tryz.ntmps16
  go_wp2_with fail
  refine hck.mono ?_
  rintro e W1 ⟨rfl, hb1⟩
  have HB1 := Lib.hid (HB0.out.trans (hb1.mono HB0.out.size))
  clear hck hb1 HB0
  have hof := spanOf_any B cb M W1 ((HB.out.below HB1.out)) HM.out.ok (by omega)
  go_wp2_with fail
  refine hof.mono ?_
  rintro e W2 ⟨vb, RB, rfl, hoRB, hrRB, hlRB, hbRB⟩
  have HB2 := Lib.hid (HB1.out.trans (hbRB.mono HB1.out.size))
  have HIRB := Lib.hid (HM.out.rgs hrRB)
  have HORB := Lib.hid hoRB
  have HNRB : Hid (RB.length ≤ 1000) := Lib.hid (by omega)
  have HWRB := Lib.hid HB1.out.size
  clear hof hrRB hlRB hoRB
  clear hbRB
  have hof := spanOf_any A ca L W2 ((HA.out.below HB2.out)) HL.out.ok (by omega)
  go_wp2_with fail
  refine hof.mono ?_
  rintro e W3 ⟨va, RA, rfl, hoRA, hrRA, hlRA, hbRA⟩
  have HB3 := Lib.hid (HB2.out.trans (hbRA.mono HB2.out.size))
  have HIRA := Lib.hid (HL.out.rgs hrRA)
  have HORA := Lib.hid hoRA
  have HNRA : Hid (RA.length ≤ 1000) := Lib.hid (by omega)
  have HWRA := Lib.hid HB2.out.size
  clear hof hrRA hlRA hoRA
  have HORB2 := Lib.hid (own_belowR HORB.out hbRA (Nat.le_refl _))
  obtain ⟨A5, c5, rfl, ha5, hn5⟩ := rg_own HORA.out
  have hrs := rest_any A5 c5 RA SA W3 ha5 HIRA.out (by have := HNRA.out; omega)
  clear hbRA ha5 hn5
  go_wp2_with fail
  refine hrs.mono ?_
  rintro e W4 ⟨v5, R5, rfl, ho5, hi5, hb5⟩
  have HB4 := Lib.hid (HB3.out.trans (hb5.mono HB3.out.size))
  have HI5 := Lib.hid hi5
  have HO5 := Lib.hid ho5
  have HN5 : Hid (R5.length ≤ 2002) := Lib.hid (by
    have e1 : R5.length = (restS SA).length := by rw [← hi5.map, List.length_map]
    have e2 : RA.length = (SA).length := by rw [← HIRA.out.map, List.length_map]
    have e3 := outR_len SA 2
    have e4 : outR SA 2 = restS SA := rfl
    have e5 := HNRA.out
    rw [e4] at e3
    omega)
  clear hrs ho5 hi5
  have HORB3 := Lib.hid (own_belowR HORB2.out hb5 (Nat.le_refl _))
  obtain ⟨A6, c6, rfl, ha6, -⟩ := rg_own HORB3.out
  obtain ⟨A7, c7, rfl, ha7, -⟩ := rg_own HO5.out
  have hor := both_any2 A6 A7 c6 c7 RB R5 SB (restS SA) W4 ha6 ha7 HIRB.out HI5.out (by have := HNRB.out; omega) (by have := HN5.out; omega)
  clear hb5 ha6 ha7
  go_wp2_with fail
  refine hor.mono ?_
  rintro e W6 ⟨v6, R6, S6, rfl, hoF, hi6, hs6, hl6, hb6⟩
  have HBF := Lib.hid (HB4.out.trans (hb6.mono HB4.out.size))
  have HIF := Lib.hid hi6
  have HSP : Hid (∀ k, hasS S6 k ↔ hasS SB k ∧ ¬ hasS SA k) := Lib.hid (fun k => by
    have h9 := hs6 k
    dsimp only at h9
    rw [h9, (restS_law HL.out.norm HL.out.fam).2.1 k]
    constructor
    · rintro ⟨h1, _, h2⟩
      exact ⟨h1, h2⟩
    · rintro ⟨h1, h2⟩
      exact ⟨h1, set_inU HM.out.fam h1, h2⟩)
  have HSL : Hid (S6.length = R6.length) := Lib.hid (by rw [← hi6.map, List.length_map])
  obtain ⟨A9, c9, rfl, -, -⟩ := rg_own hoF
  obtain ⟨b, hb⟩ : ∃ b, ((R6.length : Int) == 0) = b := ⟨_, rfl⟩
  have HBB := Lib.hid hb
  have hlr : R6.length ≤ 4000 := by have := HNRB.out; have := HN5.out; omega
  clear hor hi6 hs6 hl6 hb6 hoF
  go_wp2_with fail
  go_ret2
  refine ⟨b, S6, rfl, HSP.out, HIF.out.norm, ?_, HBF.out⟩
  rw [← HBB.out, ← List.length_eq_zero_iff, HSL.out, beq_iff_eq]
  omega
set_option maxRecDepth 100000 in
set_option maxHeartbeats 4000000 in
theorem rest_set (A : Option Addr) (ca : Nat) (L : List Pf) (SA : List Sn) (w : World) (hA : pxAt w A L) (hL : SetIs L SA) (h1 : L.length ≤ 1000) :
    Calls Tryz.prog 12 #[.slice A L.length ca] w fun e w' => SetOp w (fun k => inU k ∧ ¬ hasS SA k) e w' := by
  have hck := checkSet_any A ca L SA w hA hL h1
  have HA := Lib.hid hA
  have HL := Lib.hid hL
  clear hA hL
  go_enter Tryz.func12, Tryz.ntmps12
  go_wp2_with fail
  refine hck.mono ?_
  rintro e W1 ⟨rfl, hb1⟩
  have HB1 := Lib.hid hb1
  clear hck hb1
  have hof := spanOf_any A ca L W1 ((HA.out.below HB1.out)) HL.out.ok (by omega)
  go_wp2_with fail
  refine hof.mono ?_
  rintro e W2 ⟨va, RA, rfl, hoRA, hrRA, hlRA, hbRA⟩
  have HB2 := Lib.hid (HB1.out.trans (hbRA.mono HB1.out.size))
  have HIRA := Lib.hid (HL.out.rgs hrRA)
  have HORA := Lib.hid hoRA
  have HNRA : Hid (RA.length ≤ 1000) := Lib.hid (by omega)
  have HWRA := Lib.hid HB1.out.size
  clear hof hrRA hlRA hoRA
  obtain ⟨A5, c5, rfl, ha5, hn5⟩ := rg_own HORA.out
  have hrs := rest_any A5 c5 RA SA W2 ha5 HIRA.out (by have := HNRA.out; omega)
  clear hbRA ha5 hn5
  go_wp2_with fail
  refine hrs.mono ?_
  rintro e W4 ⟨v5, R5, rfl, ho5, hi5, hb5⟩
  have HBF := Lib.hid (HB2.out.trans (hb5.mono HB2.out.size))
  have HI5 := Lib.hid hi5
  have HO5 := Lib.hid ho5
  have HN5 : Hid (R5.length ≤ 2002) := Lib.hid (by
    have e1 : R5.length = (restS SA).length := by rw [← hi5.map, List.length_map]
    have e2 : RA.length = (SA).length := by rw [← HIRA.out.map, List.length_map]
    have e3 := outR_len SA 2
    have e4 : outR SA 2 = restS SA := rfl
    have e5 := HNRA.out
    rw [e4] at e3
    omega)
  clear hrs ho5 hi5
  have hoF := HO5.out
  have HIF := HI5
  have hlr : R5.length ≤ 4000 := by have := HN5.out; omega
  have HSP : Hid (∀ k, hasS (restS SA) k ↔ inU k ∧ ¬ hasS SA k) := Lib.hid (restS_law HL.out.norm HL.out.fam).2.1
  clear hb5
  obtain ⟨A9, c9, rfl, ha9, -⟩ := rg_own hoF
  have hst := set_any A9 c9 R5 W4 ha9 HIF.out.ok (by rw [HIF.out.map]; exact HIF.out.norm) (by rw [HIF.out.map]; have := rest_many HL.out.als HIF.out.norm HIF.out.fam (fun n => by rw [HL.out.bl]; exact HSP.out n); simp at this; omega) (by omega)
  rw [HIF.out.map] at hst
  clear hoF ha9
  go_wp2_with fail
  refine hst.mono ?_
  rintro e W9 ⟨v9, c, P9, rfl, ho9, hb9, h9⟩
  have H9 : Hid (SetOp w (fun k => inU k ∧ ¬ hasS SA k) (.returned (.tuple #[v9, .int .i64 c])) W9) := Lib.hid ⟨restS SA, HSP.out, HIF.out.norm, HIF.out.fam, v9, c, P9, rfl, own_base ho9 HBF.out.size, HBF.out.trans (hb9.mono HBF.out.size), h9⟩
  clear ho9 hb9 h9 hst
  go_wp2_with fail
  go_ret2
  exact H9.out
end Go.Proofs.YtcmfkheohhfpiaaGreatDoor

namespace Go.Proofs.YtcmfkheohhfpiaaGreatDoor
open Go.RowKit Go.Hw
set_option maxRecDepth 100000 in
set_option maxHeartbeats 4000000 in
theorem has_set (A : Option Addr) (ca : Nat) (L : List Pf) (SA : List Sn) (x : Ad) (w : World) (hA : pxAt w A L) (hL : SetIs L SA) (h1 : L.length ≤ 1000) (hx : fineA x) :
    Calls Tryz.prog 8 #[.slice A L.length ca, .agg #[.bool x.six, .int .u64 x.hi, .int .u64 x.lo]] w fun e w' => ∃ b, e = .returned (.tuple #[.bool b, .int .i64 0]) ∧ (b = true ↔ hasS SA (keyA x)) ∧ Below w.heap.size w w' := by
  have HB0 := Lib.hid ((Below.refl w.heap.size w).alloc (Nat.le_refl _) (.cells #[.bool x.six, .int .u64 x.hi, .int .u64 x.lo] 30 (0, 0)))
  have HX0 := Lib.hid (heap_alloc_new w (.cells #[.bool x.six, .int .u64 x.hi, .int .u64 x.lo] 30 (0, 0)))
  have hck := checkSet_any A ca L SA _ (hA.below HB0.out) hL h1
  have HA := Lib.hid hA
  have HL := Lib.hid hL
  have HX := Lib.hid hx
  clear hA hL hx
  go_enter Tryz.func8, Tryz.ntmps8
  go_wp2_with fail
  generalize World.alloc w _ = W0 at *
  refine hck.mono ?_
  rintro e W1 ⟨rfl, hb1⟩
  have HB1 := Lib.hid (HB0.out.trans (hb1.mono HB0.out.size))
  have HX1 := Lib.hid ((hb1.block _ (lt_of_block HX0.out)).trans HX0.out)
  obtain ⟨x0, x1, x2, -⟩ := res3 HX1.out
  have hca := fun W => checkAddr_any x.six x.hi x.lo W HX.out.1.1
  have hcd := HX.out.code
  rw [hcd] at hca
  clear hck hb1 HB0 HX0 hcd
  go_wp2_with fail
  refine (hca W1).mono ?_
  rintro e W2 ⟨rfl, hb2⟩
  have HB2 := Lib.hid (HB1.out.trans (hb2.mono HB1.out.size))
  have HX2 := Lib.hid ((hb2.block _ (lt_of_block HX1.out)).trans HX1.out)
  obtain ⟨x0, x1, x2, -⟩ := res3 HX2.out
  have hbx := lt_of_block HX2.out
  clear hb2 hca HB1 HX1
  have HA2 := Lib.hid (HA.out.below HB2.out)
  have hof : ∀ W, Below W2.heap.size W2 W → Calls Tryz.prog 29 #[.slice A L.length ca] W fun e w' => ∃ A3 c3 R, e = .returned (.slice A3 R.length c3) ∧ rgAt w' A3 R ∧ RgsIs R SA ∧ R.length ≤ 1000 ∧ Below W.heap.size W w' := fun W hW =>
    (spanOf_any A ca L W (HA2.out.below hW) HL.out.ok (by omega)).mono fun e w' ⟨v, R, e1, e2, e3, e4, e5⟩ => by
      obtain ⟨A3, c3, rfl, ha3⟩ := rw_at (d := noRg) rgC_len e2
      exact ⟨A3, c3, R, e1, ha3, HL.out.rgs e3, by omega, e5⟩
  have HOF := Lib.hid hof
  clear hof
  go_upto_region 7 with (fail)
  have HBZ : Hid (Below W2.heap.size W2 W2) := Lib.hid (Below.refl _ _)
  go_region_held3 (fun w' => w'.cell? ⟨w.heap.size, 0, none⟩ = some (.bool x.six) ∧ w'.cell? ⟨w.heap.size, 1, none⟩ = some (.int .u64 x.hi) ∧ w'.cell? ⟨w.heap.size, 2, none⟩ = some (.int .u64 x.lo))
    (first | exact ⟨x0, x1, x2⟩ | ((repeat' apply And.intro) <;> (first | (go_simp; done) | with_reducible assumption)))
    (first
      | (go_at_call 29; refine (HOF.out _ (by first | exact HBZ.out | exact HBZ.out.drew | exact (Below.refl _ _).drew)).mono ?_; rintro e W3 ⟨A3, c3, R3, rfl, ho3, hr3, hl3, hb3⟩; have x0 : W3.cell? ⟨w.heap.size, 0, none⟩ = some (.bool x.six) := (hb3.cell (p := ⟨w.heap.size, 0, none⟩) (by first | exact hbx | (simp; omega))).trans (by first | assumption | (go_simp; done)); have x1 : W3.cell? ⟨w.heap.size, 1, none⟩ = some (.int .u64 x.hi) := (hb3.cell (p := ⟨w.heap.size, 1, none⟩) (by first | exact hbx | (simp; omega))).trans (by first | assumption | (go_simp; done)); have x2 : W3.cell? ⟨w.heap.size, 2, none⟩ = some (.int .u64 x.lo) := (hb3.cell (p := ⟨w.heap.size, 2, none⟩) (by first | exact hbx | (simp; omega))).trans (by first | assumption | (go_simp; done)); have hbx3 : w.heap.size < W3.heap.size := (by have := hb3.size; (try simp at this); omega); have HO3 := Lib.hid ho3; have HR3 := Lib.hid hr3; have HN3 := Lib.hid hl3; have HB3 : Hid (Below w.heap.size w W3) := Lib.hid (by first | exact HB2.out.trans (hb3.mono HB2.out.size) | exact HB2.out.drew.trans (hb3.mono HB2.out.size)); clear ho3 hr3 hl3 hb3)
      | (go_at_call 30; refine (has_any A3 c3 R3 SA x _ (by first | exact HO3.out | exact HO3.out.below (Below.refl _ _).drew) HR3.out HX.out (by have := HN3.out; omega)).mono ?_; rintro e W4 ⟨b, rfl, hbb, hb4⟩; have x0 : W4.cell? ⟨w.heap.size, 0, none⟩ = some (.bool x.six) := (hb4.cell (p := ⟨w.heap.size, 0, none⟩) (by first | exact hbx3 | (simp; omega))).trans (by first | assumption | (go_simp; done)); have x1 : W4.cell? ⟨w.heap.size, 1, none⟩ = some (.int .u64 x.hi) := (hb4.cell (p := ⟨w.heap.size, 1, none⟩) (by first | exact hbx3 | (simp; omega))).trans (by first | assumption | (go_simp; done)); have x2 : W4.cell? ⟨w.heap.size, 2, none⟩ = some (.int .u64 x.lo) := (hb4.cell (p := ⟨w.heap.size, 2, none⟩) (by first | exact hbx3 | (simp; omega))).trans (by first | assumption | (go_simp; done)); have HBB := Lib.hid hbb; have HB4 : Hid (Below w.heap.size w W4) := Lib.hid (by first | exact HB3.out.trans (hb4.mono HB3.out.size) | exact HB3.out.drew.trans (hb4.mono HB3.out.size)); clear hbb hb4))
  all_goals (go_wp2_with fail)
  all_goals go_ret2
  all_goals exact ⟨b, rfl, HBB.out, HB4.out⟩
set_option maxRecDepth 100000 in
set_option maxHeartbeats 4000000 in
theorem ranges_set (A : Option Addr) (ca : Nat) (L : List Pf) (SA : List Sn) (w : World) (hA : pxAt w A L) (hL : SetIs L SA) (h1 : L.length ≤ 1000) :
    Calls Tryz.prog 13 #[.slice A L.length ca] w fun e w' => ∃ v R, e = .returned (.tuple #[v, .int .i64 0]) ∧ rgOwn w' w.heap.size v R ∧ RgsIs R SA ∧ R.length ≤ L.length ∧ Below w.heap.size w w' := by
  have hck := checkSet_any A ca L SA w hA hL h1
  have HA := Lib.hid hA
  have HL := Lib.hid hL
  clear hA hL
  go_enter Tryz.func13, Tryz.ntmps13
  go_wp2_with fail
  refine hck.mono ?_
  rintro e W1 ⟨rfl, hb1⟩
  have HB1 := Lib.hid hb1
  clear hck hb1
  have hof := spanOf_any A ca L W1 (HA.out.below HB1.out) HL.out.ok (by omega)
  go_wp2_with fail
  refine hof.mono ?_
  rintro e W2 ⟨v, R, rfl, ho, hr, hl, hb⟩
  have HF : Hid (rgOwn W2 w.heap.size v R ∧ RgsIs R SA ∧ R.length ≤ L.length ∧ Below w.heap.size w W2) := Lib.hid ⟨own_base ho HB1.out.size, HL.out.rgs hr, hl, HB1.out.trans (hb.mono HB1.out.size)⟩
  clear hof ho hr hl hb
  go_wp2_with fail
  go_ret2
  exact ⟨v, R, rfl, HF.out⟩
theorem idx_addr (a0 a1 a2 b0 b1 b2 : Value) (w : World) : (Instr.index 68 (.agg #[a0, a1, a2, b0, b1, b2]) (.int .i64 0)).run Tryz.prog w = .ok (.agg #[a0, a1, a2]) w ∧ (Instr.index 68 (.agg #[a0, a1, a2, b0, b1, b2]) (.int .i64 1)).run Tryz.prog w = .ok (.agg #[b0, b1, b2]) w := ⟨by kernel_rfl, by kernel_rfl⟩
theorem rgAt_one {W : World} {g : Nat} {r : Rg} {T : TypeId} (h : W.heap[g]? = some (.cells #[.bool r.six, .int .u64 r.hi, .int .u64 r.lo, .bool r.six2, .int .u64 r.hi2, .int .u64 r.lo2] T (0, 0))) : rgAt W (some ⟨g, 0, none⟩) [r] := by
  intro i hi
  have : i = 0 := by simp at hi; omega
  subst this
  refine ⟨g, 0, rfl, lt_of_block h, fun j u hu => ?_⟩
  have hj := (List.getElem?_eq_some_iff.1 hu).1
  rw [rgC_len] at hj
  obtain ⟨⟨n0, n1, n2, n3, n4, n5⟩, -⟩ := res6r h
  have : j = 0 ∨ j = 1 ∨ j = 2 ∨ j = 3 ∨ j = 4 ∨ j = 5 := by omega
  rcases this with rfl | rfl | rfl | rfl | rfl | rfl <;> (injection hu with hu; subst hu; first | exact n0 | exact n1 | exact n2 | exact n3 | exact n4 | exact n5)
set_option maxRecDepth 100000 in
set_option maxHeartbeats 4000000 in
theorem span_set (r : Rg) (w : World) (hr : okR r) (hl : (preS [rgS r]).length ≤ 1000) :
    Calls Tryz.prog 14 #[.agg #[.bool r.six, .int .u64 r.hi, .int .u64 r.lo, .bool r.six2, .int .u64 r.hi2, .int .u64 r.lo2]] w fun e w' => ∃ v P, e = .returned (.tuple #[v, .int .i64 0]) ∧ pxOwn w' w.heap.size v P ∧ SetIs P [rgS r] ∧ Below w.heap.size w w' := by
  obtain ⟨s, h, l, s2, h2, l2⟩ := r
  obtain rfl : s2 = s := hr.six
  have hf : AddrFine s2 h l := hr.f
  have hll : AddrFine s2 h2 l2 := hr.l
  have hle : keyA ⟨s2, h, l⟩ ≤ keyA ⟨s2, h2, l2⟩ := hr.le
  obtain ⟨S0, hS0⟩ : ∃ S0, rgS ⟨s2, h, l, s2, h2, l2⟩ = S0 := ⟨_, rfl⟩
  have HS0 := Lib.hid hS0
  have HR := Lib.hid hr
  rw [hS0] at hl ⊢
  have HL := Lib.hid hl
  have HB0 := Lib.hid ((Below.refl w.heap.size w).alloc (Nat.le_refl _) (.cells #[.bool s2, .int .u64 h, .int .u64 l, .bool s2, .int .u64 h2, .int .u64 l2] 43 (0, 0)))
  have HX0 := Lib.hid (heap_alloc_new w (.cells #[.bool s2, .int .u64 h, .int .u64 l, .bool s2, .int .u64 h2, .int .u64 l2] 43 (0, 0)))
  have HFI := Lib.hid (And.intro hf (And.intro hll hle))
  have hi := fun W => (idx_addr (.bool s2) (.int .u64 h) (.int .u64 l) (.bool s2) (.int .u64 h2) (.int .u64 l2) W).1
  have hi2 := fun W => (idx_addr (.bool s2) (.int .u64 h) (.int .u64 l) (.bool s2) (.int .u64 h2) (.int .u64 l2) W).2
  clear hr hl hS0 hf hll hle
  dsimp only
  go_enter Tryz.func14, Tryz.ntmps14
  go_wp2_with fail
  generalize World.alloc w _ = W0 at *
  go_loopw [5, 6, 12] (fun _ _ v12 wr => ∃ k : Nat, k ≤ 2 ∧ v12 = .int .i64 k ∧ Below w.heap.size w wr ∧ wr.heap[w.heap.size]? = some (.cells #[.bool s2, .int .u64 h, .int .u64 l, .bool s2, .int .u64 h2, .int .u64 l2] 43 (0, 0))) (fun _ _ v12 _ => 2 - (intOf v12).toNat)
  case atStart => exact ⟨0, by omega, rfl, HB0.out, HX0.out⟩
  case round =>
    obtain ⟨k, hk, rfl, hb, hx⟩ := hrel
    have HBW := Lib.hid hb
    have HXW := Lib.hid hx
    clear HB0 HX0 hb hx
    by_cases hlt : k < 2
    · have hc1 := fun W => checkAddr_any s2 h l W HFI.out.1.1.1
      have hc2 := fun W => checkAddr_any s2 h2 l2 W HFI.out.2.1.1.1
      have hd1 := HFI.out.1.code
      have hd2 := HFI.out.2.1.code
      rw [hd1] at hc1
      rw [hd2] at hc2
      have : k = 0 ∨ k = 1 := by omega
      clear hd1 hd2
      rcases this with rfl | rfl
      · have HBA := Lib.hid (HBW.out.alloc HBW.out.size (.cells #[.bool s2, .int .u64 h, .int .u64 l] 30 (0, 0)))
        have HXA := Lib.hid ((heap_alloc_old wr (.cells #[.bool s2, .int .u64 h, .int .u64 l] 30 (0, 0)) (lt_of_block HXW.out)).trans HXW.out)
        go_wp2_with fail
        refine (hc1 _).mono ?_
        rintro e W2 ⟨rfl, hb2⟩
        have HB2 := Lib.hid (HBA.out.trans (hb2.mono HBA.out.size))
        have HX2 := Lib.hid ((hb2.block _ (lt_of_block HXA.out)).trans HXA.out)
        clear hb2 hc1 hc2 HBA HXA
        go_wp2_with fail
        exact ⟨⟨1, by omega, by simp, HB2.out, HX2.out⟩, by simp [intOf]⟩
      · have HBA := Lib.hid (HBW.out.alloc HBW.out.size (.cells #[.bool s2, .int .u64 h2, .int .u64 l2] 30 (0, 0)))
        have HXA := Lib.hid ((heap_alloc_old wr (.cells #[.bool s2, .int .u64 h2, .int .u64 l2] 30 (0, 0)) (lt_of_block HXW.out)).trans HXW.out)
        go_wp2_with fail
        refine (hc2 _).mono ?_
        rintro e W2 ⟨rfl, hb2⟩
        have HB2 := Lib.hid (HBA.out.trans (hb2.mono HBA.out.size))
        have HX2 := Lib.hid ((hb2.block _ (lt_of_block HXA.out)).trans HXA.out)
        clear hb2 hc1 hc2 HBA HXA
        go_wp2_with fail
        exact ⟨⟨2, by omega, by simp, HB2.out, HX2.out⟩, by simp [intOf]⟩
    · have : k = 2 := by omega
      subst this
      obtain ⟨⟨n0, n1, n2, n3, n4, n5⟩, -⟩ := res6r HXW.out
      have hcm := fun W => addrCompare_any s2 h2 l2 s2 h l W
      have hkc := (spanC_key (x := ⟨s2, h2, l2⟩) (y := ⟨s2, h, l⟩) HFI.out.2.1 HFI.out.1).1
      dsimp only at hkc
      have hle := HFI.out.2.2
      generalize spanC s2 h2 l2 s2 h l = c at *
      have hd : decide (c < 0) = false := decide_eq_false (fun h9 => by have := hkc.1 h9; omega)
      clear hkc hle hi hi2
      go_wp2_with fail
      refine (hcm _).mono ?_
      rintro e W2 ⟨rfl, hb2⟩
      have HB2 := Lib.hid (HBW.out.trans (hb2.mono HBW.out.size))
      have HX2 := Lib.hid ((hb2.block _ (lt_of_block HXW.out)).trans HXW.out)
      obtain ⟨⟨n0, n1, n2, n3, n4, n5⟩, -⟩ := res6r HX2.out
      have HBA := Lib.hid (HB2.out.alloc HB2.out.size (.cells #[.bool s2, .int .u64 h, .int .u64 l, .bool s2, .int .u64 h2, .int .u64 l2] 43 (0, 0)))
      have HMP : Hid ([(⟨s2, h, l, s2, h2, l2⟩ : Rg)].map rgS = [S0]) := Lib.hid (by rw [← HS0.out]; rfl)
      have hst := set_any (some ⟨W2.heap.size, 0, none⟩) 1 [(⟨s2, h, l, s2, h2, l2⟩ : Rg)] (W2.alloc (.cells #[.bool s2, .int .u64 h, .int .u64 l, .bool s2, .int .u64 h2, .int .u64 l2] 43 (0, 0))) (rgAt_one (r := ⟨s2, h, l, s2, h2, l2⟩) (heap_alloc_new W2 _)) (by intro r hr; simp at hr; rw [hr]; exact HR.out) (by
        refine ⟨okR_okS (by intro r hr; simp at hr; rw [hr]; exact HR.out), ?_⟩
        simp) (by rw [HMP.out]; have := HL.out; omega) (by simp)
      rw [HMP.out] at hst
      clear hcm hb2
      go_wp2_with fail
      refine hst.mono ?_
      rintro e W9 ⟨v9, c9, P9, rfl, ho9, hb9, h9⟩
      rcases h9 with ⟨rfl, h9, h10⟩ | ⟨_, _, h9⟩
      · have H9 : Hid (pxOwn W9 w.heap.size v9 P9 ∧ SetIs P9 [S0] ∧ Below w.heap.size w W9) := Lib.hid ⟨own_base ho9 HBA.out.size, h9, HBA.out.trans (hb9.mono HBA.out.size)⟩
        clear ho9 hb9 h9 h10 hst
        go_wp2_with fail
        go_ret2
        exact ⟨v9, P9, rfl, H9.out⟩
      · exact absurd HL.out (by omega)
end Go.Proofs.YtcmfkheohhfpiaaGreatDoor

namespace Go.Proofs.YtcmfkheohhfpiaaGreatDoor
open Go.RowKit Go.Hw
set_option maxRecDepth 100000 in
set_option maxHeartbeats 4000000 in
theorem checkPrefixes_any (A : Option Addr) (ca : Nat) (L : List Pf) (w : World) (hA : pxAt w A L) (hL : ∀ p ∈ L, okP p) (h1 : L.length ≤ 1000000) :
    Calls Tryz.prog 37 #[.slice A L.length ca] w fun e w' => e = .returned (.int .i64 0) ∧ Below w.heap.size w w' := by
  have HA := Lib.hid hA
  have HL := Lib.hid hL
  clear hA hL
  go_enter Tryz.func37, Tryz.ntmps37
  go_wp2_with fail
  go_loopw [4, 5, 8] (fun _ _ v8 wr => ∃ k : Nat, k ≤ L.length ∧ v8 = .int .i64 k ∧ Below w.heap.size w wr) (fun _ _ v8 _ => L.length - (intOf v8).toNat)
  case atStart => exact ⟨0, Nat.zero_le _, rfl, Below.refl _ _⟩
  case round =>
    obtain ⟨k, hk, rfl, hb⟩ := hrel
    have HBW := Lib.hid hb
    by_cases hlt : k < L.length
    · obtain ⟨g5, off, hA, hgB, hcc⟩ := (HA.out.below hb) k hlt
      obtain ⟨c0, c1, c2, c3⟩ := px_cells hcc
      have hrx := HL.out (L.getD k noPf) (rw_mem hlt)
      have hch := fun W => checkPrefix_any (L.getD k noPf).six (L.getD k noPf).hi (L.getD k noPf).lo (L.getD k noPf).bits W hrx.1.1 hrx.1.2.1
      rw [pfS_right hrx] at hch
      generalize L.getD k noPf = x at *
      have hd : decide ((k : Int) < (L.length : Int)) = true := by simp; omega
      have HBB := Lib.hid (hb.alloc hb.size (.cells #[.bool x.six, .int .u64 x.hi, .int .u64 x.lo, .int .i64 x.bits] 48 (0, 0)))
      clear hcc hrx hb
      subst hA
      go_wp2_with fail
      refine (hch _).mono ?_
      rintro e w3 ⟨rfl, hb3⟩
      have HB3 := Lib.hid (HBB.out.trans (hb3.mono HBB.out.size))
      clear hb3 hch HBB
      go_wp2_with fail
      exact ⟨⟨k + 1, by omega, by simp, HB3.out⟩, by simp [intOf]; omega⟩
    · have : k = L.length := by omega
      subst this
      clear hb
      go_wp2_with fail
      go_ret
      exact ⟨rfl, HBW.out⟩
set_option maxRecDepth 100000 in
set_option maxHeartbeats 4000000 in
theorem least_set (A : Option Addr) (ca : Nat) (L : List Pf) (SA : List Sn) (w : World) (hA : pxAt w A L) (hL : SetIs L SA) (h1 : L.length ≤ 1000) :
    Calls Tryz.prog 15 #[.slice A L.length ca] w fun e w' => ∃ v P, e = .returned (.tuple #[v, .int .i64 0]) ∧ pxOwn w' w.heap.size v P ∧ SetIs P SA ∧ Below w.heap.size w w' := by
  have hck := checkPrefixes_any A ca L w hA hL.ok (by omega)
  have hd0 : decide ((1000 : Int) < (L.length : Int)) = false := by simp; omega
  have HA := Lib.hid hA
  have HL := Lib.hid hL
  clear hA hL
  go_enter Tryz.func15, Tryz.ntmps15
  go_wp2_with fail
  refine hck.mono ?_
  rintro e W1 ⟨rfl, hb1⟩
  have HB1 := Lib.hid hb1
  have hof := spanOf_any A ca L W1 (HA.out.below HB1.out) HL.out.ok (by omega)
  clear hck hb1
  go_wp2_with fail
  refine hof.mono ?_
  rintro e W2 ⟨v, R, rfl, ho, hr, hl, hb⟩
  obtain ⟨A9, c9, rfl, ha9, -⟩ := rg_own ho
  have HB2 := Lib.hid (HB1.out.trans (hb.mono HB1.out.size))
  have HI := Lib.hid (HL.out.rgs hr)
  have hst := set_any A9 c9 R W2 ha9 HI.out.ok (by rw [HI.out.map]; exact HI.out.norm) (by rw [HI.out.map, ← HL.out.len]; omega) (by omega)
  rw [HI.out.map] at hst
  clear hof ho hr hl hb ha9
  go_wp2_with fail
  refine hst.mono ?_
  rintro e W9 ⟨v9, c, P9, rfl, ho9, hb9, h9⟩
  rcases h9 with ⟨rfl, h9, h10⟩ | ⟨_, _, h9⟩
  · have H9 : Hid (pxOwn W9 w.heap.size v9 P9 ∧ SetIs P9 SA ∧ Below w.heap.size w W9) := Lib.hid ⟨own_base ho9 HB2.out.size, h9, HB2.out.trans (hb9.mono HB2.out.size)⟩
    clear ho9 hb9 h9 h10 hst
    go_wp2_with fail
    go_ret2
    exact ⟨v9, P9, rfl, H9.out⟩
  · exact absurd h9 (by rw [← HL.out.len]; omega)
end Go.Proofs.YtcmfkheohhfpiaaGreatDoor
