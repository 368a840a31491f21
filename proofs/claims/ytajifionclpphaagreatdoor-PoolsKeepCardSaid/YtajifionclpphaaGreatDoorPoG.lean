/- What of a pool is free: addr.free, addr.Free. addr.Free; addr.choose: a place for a lease. -/
import Derived.Test.YtajifionclpphaaGreatDoorPoE
import Derived.Test.YtajifionclpphaaGreatDoorSvL
import Derived.Test.YtajifionclpphaaGreatDoorPhS
namespace Go.Proofs.YtajifionclpphaaGreatDoor
open Go.RowKit Go.Hw
/-- A pool as it lies in memory. -/
structure PlAt (w : World) (P : Pl) (AK AL : Option Addr) (cl : Nat) : Prop where
  kept : pxAt w AK P.kept
  kept0 : AK = none → P.kept = []
  ls : leAt w AL P.ls
  ls0 : AL = none → P.ls = []
  cap : P.ls.length ≤ cl
theorem PlAt.below {w w' : World} {P : Pl} {AK AL : Option Addr} {cl : Nat} (h : PlAt w P AK AL cl) (hb : Below w.heap.size w w') : PlAt w' P AK AL cl := ⟨h.kept.below hb, h.kept0, h.ls.below hb, h.ls0, h.cap⟩
/-- A pool that is right, small, with keys. -/
structure FinePl (P : Pl) : Prop where
  ok : OkPl P
  key : ∀ x ∈ P.ls, isKey ⟨x.key.toArray⟩ = true ∧ x.key.length ≤ 40
  n1 : P.kept.length ≤ 2
  n2 : P.ls.length ≤ 5
theorem set_rgs {R : List Rg} {L : List Pf} (k : SetR R (L.map bkP)) : RgsIs R (R.map rgS) ∧ ∀ n, hasS (R.map rgS) n ↔ ∃ p ∈ L, inP p n := by
  refine ⟨⟨k.ok, rfl, k.norm⟩, fun n => ?_⟩
  rw [k.has n]
  constructor
  · rintro ⟨z, hz, h1, h2⟩
    obtain ⟨b, hb, rfl⟩ := List.mem_map.1 hz
    obtain ⟨p, hp, rfl⟩ := List.mem_map.1 hb
    exact ⟨p, hp, h1, h2⟩
  · rintro ⟨p, hp, h1, h2⟩
    exact ⟨_, List.mem_map.2 ⟨_, List.mem_map.2 ⟨p, hp, rfl⟩, rfl⟩, h1, h2⟩
theorem px_one_at {W : World} {g : Nat} {p : Pf} {T : TypeId} (h : W.heap[g]? = some (.cells #[.bool p.six, .int .u64 p.hi, .int .u64 p.lo, .int .i64 p.bits] T (0, 0))) : pxAt W (some ⟨g, 0, none⟩) [p] := by
  intro i hi
  obtain rfl : i = 0 := by simpa using hi
  refine ⟨g, 0, rfl, lt_of_block h, fun j u hu => ?_⟩
  have := cells_blk h j u hu
  rw [Addr.add_lit] at this
  simpa using this
set_option maxRecDepth 100000 in
set_option maxHeartbeats 8000000 in
theorem free_any (P : Pl) (AK AL : Option Addr) (ck cl : Nat) (w : World) (h : PlAt w P AK AL cl) (hf : FinePl P) :
    Calls Tryz.prog 56 #[plV P.pf (.slice AK P.kept.length ck) (.slice AL P.ls.length cl)] w fun e w' => RgsOut w (freeN P) 1000 e w' := by
  obtain ⟨i0, hi0, hz0, hz1, hz2⟩ := info_parts px_info
  have HF := Lib.hid hf
  have b0 := heap_alloc_new w (plBox P.pf (.slice AK P.kept.length ck) (.slice AL P.ls.length cl))
  have HB : Hid (Below w.heap.size w (w.alloc (plBox P.pf (.slice AK P.kept.length ck) (.slice AL P.ls.length cl)))) := Lib.hid ((Below.refl _ _).alloc (Nat.le_refl _) _)
  have H0 := Lib.hid (h.below HB.out)
  have hn1 := hf.n1
  have hn2 := hf.n2
  clear h hf
  unfold plV
  unfold plBox at b0 HB H0
  go_enter Tryz.func56, Tryz.ntmps56
  go_upto_region 1 with (fail)
  generalize World.alloc w _ = W at b0 HB H0 ⊢
  have BX := Lib.hid b0
  obtain ⟨⟨x0, x1, x2, x3, x4, x5⟩, -⟩ := res6r b0
  clear b0
  have hcl := px_clone AK ck P.kept W H0.out.kept H0.out.kept0 (by omega)
  go_wp2_with fail
  refine hcl.mono ?_
  rintro e W1 ⟨v, rfl, ho1, hb1⟩
  have BX1 := Lib.hid ((hb1.block _ (lt_of_block BX.out)).trans BX.out)
  have HB1 := Lib.hid (HB.out.trans (hb1.mono HB.out.size))
  have H1 := Lib.hid (H0.out.below hb1)
  have HO1 := Lib.hid ho1
  have HBW1 := Lib.hid hb1
  have hbx := lt_of_block BX.out
  clear hcl hb1 ho1 x0 x1 x2 x3 x4 x5
  obtain ⟨⟨x0, x1, x2, x3, x4, x5⟩, -⟩ := res6r BX1.out
  go_wp2_with fail
  go_loopw [3, 5, 12] (fun v3 _ v12 wr => ∃ (k : Nat) (Q : List Pf), k ≤ P.ls.length ∧ v12 = .int .i64 k ∧ Q = P.kept ++ (P.ls.take k).map (fun x => x.pf) ∧ pxOwn wr W.heap.size v3 Q ∧ Below W.heap.size W wr) (fun _ _ v12 _ => P.ls.length - (intOf v12).toNat)
  case atStart => exact ⟨0, P.kept, Nat.zero_le _, rfl, by simp, HO1.out, HBW1.out⟩
  case round =>
    obtain ⟨k, Q, hk, rfl, hQ, ho, hb⟩ := hrel
    have HQ := Lib.hid hQ
    have HO := Lib.hid ho
    have HBW := Lib.hid hb
    have hql : Q.length ≤ 200 := by rw [hQ, List.length_append, List.length_map, List.length_take]; omega
    by_cases hlt : k < P.ls.length
    · obtain ⟨g5, off, hA, hgB, hcc⟩ := (H0.out.ls.below HBW.out) k hlt
      obtain ⟨c0, c1, c2, c3, c4⟩ := le_cells hcc
      have HQ2 : Hid (Q ++ [(P.ls.getD k noLe).pf] = P.kept ++ (P.ls.take (k + 1)).map (fun x => x.pf)) := Lib.hid (by
        rw [hQ, List.take_add_one, List.getElem?_eq_getElem hlt, List.getD_eq_getElem?_getD, List.getElem?_eq_getElem hlt, List.append_assoc, List.map_append]
        rfl)
      generalize P.ls.getD k noLe = x at *
      have hd : decide ((k : Int) < (P.ls.length : Int)) = true := by simp; omega
      have HBB := Lib.hid (hb.alloc hb.size (.cells #[.string ⟨x.key.toArray⟩, .bool x.pf.six, .int .u64 x.pf.hi, .int .u64 x.pf.lo, .int .i64 x.pf.bits] 67 (0, 0)))
      have BN := Lib.hid (heap_alloc_new wr (.cells #[.string ⟨x.key.toArray⟩, .bool x.pf.six, .int .u64 x.pf.hi, .int .u64 x.pf.lo, .int .i64 x.pf.bits] 67 (0, 0)))
      have HOA := Lib.hid (World.ownsRow.alloc HO.out (.cells #[.string ⟨x.key.toArray⟩, .bool x.pf.six, .int .u64 x.pf.hi, .int .u64 x.pf.lo, .int .i64 x.pf.bits] 67 (0, 0)))
      have hwr := hb.size
      subst hA
      clear hcc hb ho hQ
      go_upto_region 5 with (fail)
      have hW4 : wr.heap.size < (World.alloc wr (.cells #[.string ⟨x.key.toArray⟩, .bool x.pf.six, .int .u64 x.pf.hi, .int .u64 x.pf.lo, .int .i64 x.pf.bits] 67 (0, 0))).heap.size := lt_of_block BN.out
      generalize World.alloc wr _ = W4 at HBB BN HOA hW4 ⊢
      generalize wr.heap.size = nb at BN hwr hW4 ⊢
      obtain ⟨⟨y0, y1, y2, y3, y4⟩, -⟩ := res5 BN.out
      have hlen := hql
      go_wp2_with (at_builtin; refine wpList_append_own _ rfl (.tmp 16) (.tmp 19) 26 rfl W.heap.size 48 i0 (.agg #[.bool false, .int .u64 0, .int .u64 0, .int .i64 0]) 4 32 Tryz.underlying26 hi0 hz0 hz1 hz2 rfl (by decide) _ _ _ rfl (World.ownsRow.alloc HOA.out _) ⟨W4.heap.size, 0, none⟩ 1 1 (pxC x.pf) rfl rfl (cells_blk (heap_alloc_new W4 (.cells #[.bool x.pf.six, .int .u64 x.pf.hi, .int .u64 x.pf.lo, .int .i64 x.pf.bits] 48 (0, 0)))) (pxC_one x.pf) (by unfold maxLen; omega) (by omega) (by first | omega | (simp; omega)) ?_)
      intro v' w5 ho5 hg5 _
      have hlt' := World.ownsRow.lt HOA.out
      have HO5 : Hid (pxOwn w5 W.heap.size v' (Q ++ [x.pf])) := Lib.hid (own_asT ho5 (by simp) (by simp [rwC]))
      have HB5 : Hid (Below W.heap.size W w5) := Lib.hid ((HBB.out.alloc HBB.out.size _).grown hg5 (HBB.out.alloc HBB.out.size _).size (fun j hj => (hlt' j hj).1))
      clear ho5 hg5 hlt'
      go_wp2_with fail
      exact ⟨⟨k + 1, Q ++ [x.pf], by omega, by simp, HQ2.out, HO5.out, HB5.out⟩, by simp [intOf]; omega⟩
    · have hkl : k = P.ls.length := by omega
      subst hkl
      have HQF : Hid (Q = P.kept ++ P.ls.map (fun x => x.pf)) := Lib.hid (by rw [hQ, List.take_length])
      have HQO : Hid (∀ q ∈ Q, okP q) := Lib.hid (fun q hq => by
        rw [HQF.out] at hq
        rcases List.mem_append.1 hq with hq | hq
        · exact (HF.out.ok.kept q hq).1
        · obtain ⟨x, hx, rfl⟩ := List.mem_map.1 hq
          exact (HF.out.ok.ls x hx).1)
      have BXr := Lib.hid ((hb.block _ hbx).trans BX.out)
      have hwr := hb.size
      clear x0 x1 x2 x3 x4 x5 hb ho hQ HQ
      obtain ⟨⟨x0, x1, x2, x3, x4, x5⟩, -⟩ := res6r BXr.out
      obtain ⟨A3, c3, rfl, ha3, -⟩ := px_own HO.out
      have HA3 := Lib.hid ha3
      have HBN := Lib.hid (HBW.out.alloc HBW.out.size (.cells #[.bool P.pf.six, .int .u64 P.pf.hi, .int .u64 P.pf.lo, .int .i64 P.pf.bits] 48 (0, 0)))
      have hpx := px_one_at (heap_alloc_new wr (.cells #[.bool P.pf.six, .int .u64 P.pf.hi, .int .u64 P.pf.lo, .int .i64 P.pf.bits] 48 (0, 0)))
      have HA4 := Lib.hid (HA3.out.below ((Below.refl _ _).alloc (Nat.le_refl _) (.cells #[.bool P.pf.six, .int .u64 P.pf.hi, .int .u64 P.pf.lo, .int .i64 P.pf.bits] 48 (0, 0))))
      have hof := spanOf_any (some ⟨wr.heap.size, 0, none⟩) 1 [P.pf] _ hpx (fun q hq => by rw [List.mem_singleton.1 hq]; exact HF.out.ok.pf) (by simp)
      clear ha3 hpx HA3
      go_wp2_with fail
      refine hof.mono ?_
      rintro e W2 ⟨va, RA, rfl, hoRA, hrRA, hlRA, hbRA⟩
      have HB2 := Lib.hid (HBN.out.trans (hbRA.mono HBN.out.size))
      obtain ⟨hi1, hh1⟩ := set_rgs hrRA
      have HIRA := Lib.hid hi1
      have HHA := Lib.hid hh1
      have HORA := Lib.hid hoRA
      have hlRA' : RA.length ≤ 1 := by simpa using hlRA
      have HA5 := Lib.hid (HA4.out.below hbRA)
      clear hof hrRA hoRA hbRA hi1 hh1 HA4
      have hof := spanOf_any A3 c3 Q W2 HA5.out HQO.out (by omega)
      go_wp2_with fail
      refine hof.mono ?_
      rintro e W3 ⟨vb, RB, rfl, hoRB, hrRB, hlRB, hbRB⟩
      have HB3 := Lib.hid (HB2.out.trans (hbRB.mono HB2.out.size))
      obtain ⟨hi1, hh1⟩ := set_rgs hrRB
      have HIRB := Lib.hid hi1
      have HHB := Lib.hid hh1
      have HORA2 := Lib.hid (own_belowR HORA.out hbRB (Nat.le_refl _))
      obtain ⟨A5, c5, rfl, ha5, -⟩ := rg_own hoRB
      have hrs := rest_any A5 c5 RB (RB.map rgS) W3 ha5 HIRB.out (by omega)
      clear hof hrRB hoRB hbRB hi1 hh1 ha5
      go_wp2_with fail
      refine hrs.mono ?_
      rintro e W4 ⟨v5, R5, rfl, ho5, hi5, hb5⟩
      have HB4 := Lib.hid (HB3.out.trans (hb5.mono HB3.out.size))
      have HI5 := Lib.hid hi5
      have hN5 : R5.length ≤ 402 := by
        have e1 : R5.length = (restS (RB.map rgS)).length := by rw [← hi5.map, List.length_map]
        have e3 := outR_len (RB.map rgS) 2
        have e4 : outR (RB.map rgS) 2 = restS (RB.map rgS) := rfl
        rw [e4, List.length_map] at e3
        omega
      have HORA3 := Lib.hid (own_belowR HORA2.out hb5 (Nat.le_refl _))
      obtain ⟨A6, c6, rfl, ha6, -⟩ := rg_own HORA3.out
      obtain ⟨A7, c7, rfl, ha7, -⟩ := rg_own ho5
      have hor := both_any2 A6 A7 c6 c7 RA R5 (RA.map rgS) (restS (RB.map rgS)) W4 ha6 ha7 HIRA.out HI5.out (by omega) (by omega)
      clear hrs ho5 hi5 hb5 ha6 ha7
      go_wp2_with fail
      refine hor.mono ?_
      rintro e W6 ⟨v6, R6, S6, rfl, hoF, hi6, hs6, hl6, hb6⟩
      have HBF := Lib.hid (HB4.out.trans (hb6.mono HB4.out.size))
      have HOF := Lib.hid (own_base hoF (Nat.le_trans HB.out.size HB4.out.size))
      have HI6 := Lib.hid hi6
      have HSP : Hid (∀ k, hasS S6 k ↔ freeN P k) := Lib.hid (fun k => by
        have h9 := hs6 k
        dsimp only at h9
        rw [h9, (restS_law HIRB.out.norm HIRB.out.fam).2.1 k, HHA.out k, HHB.out k, HQF.out]
        unfold freeN
        constructor
        · rintro ⟨⟨q, hq, h1⟩, h2, h3⟩
          rw [List.mem_singleton.1 hq] at h1
          exact ⟨h1, fun y hy hin => h3 ⟨y, by simp [hy], hin⟩, fun y hy hin => h3 ⟨y.pf, List.mem_append.2 (.inr (List.mem_map.2 ⟨y, hy, rfl⟩)), hin⟩⟩
        · rintro ⟨h1, h2, h3⟩
          refine ⟨⟨_, List.mem_singleton.2 rfl, h1⟩, ?_, ?_⟩
          · exact set_inU HIRA.out.fam ((HHA.out k).2 ⟨_, List.mem_singleton.2 rfl, h1⟩)
          · rintro ⟨q, hq, hin⟩
            rcases List.mem_append.1 hq with hq | hq
            · exact h2 q hq hin
            · obtain ⟨y, hy, rfl⟩ := List.mem_map.1 hq
              exact h3 y hy hin)
      clear hor hoF hi6 hs6 hb6
      go_wp2_with fail
      go_ret
      exact ⟨v6, R6, S6, rfl, HOF.out, HI6.out, HSP.out, by omega, HB.out.trans (HBF.out.mono HB.out.size)⟩
/-- The free set of a pool: few blocks. -/
theorem free_few {P : Pl} (hf : FinePl P) {S : List Sn} (hS : NormS S) (hfam : ∀ x ∈ S, famOk x) (h : ∀ k, hasS S k ↔ freeN P k) : (preS S).length ≤ 890 := by
  have hrow : RowB [bkP P.pf] := ⟨fun b hb => by rw [List.mem_singleton.1 hb]; exact ⟨(bkP_al hf.ok.pf).1, (bkP_al hf.ok.pf).2.1⟩, by simp⟩
  have hal : ∀ b ∈ (P.kept ++ P.ls.map (fun x => x.pf)).map bkP, alB b := fun b hb => by
    obtain ⟨q, hq, rfl⟩ := List.mem_map.1 hb
    rcases List.mem_append.1 hq with hq | hq
    · exact (bkP_al (hf.ok.kept q hq).1).1
    · obtain ⟨x, hx, rfl⟩ := List.mem_map.1 hq
      exact (bkP_al (hf.ok.ls x hx).1).1
  have := less_many hrow hal hS hfam (fun n => by
    rw [h n]
    unfold freeN
    constructor
    · rintro ⟨h1, h2, h3⟩
      refine ⟨⟨bkS (bkP P.pf), by simp, h1.1, h1.2⟩, ?_⟩
      rintro ⟨z, hz, hz1, hz2⟩
      obtain ⟨b, hb, rfl⟩ := List.mem_map.1 hz
      obtain ⟨q, hq, rfl⟩ := List.mem_map.1 hb
      rcases List.mem_append.1 hq with hq | hq
      · exact h2 q hq ⟨hz1, hz2⟩
      · obtain ⟨x, hx, rfl⟩ := List.mem_map.1 hq
        exact h3 x hx ⟨hz1, hz2⟩
    · rintro ⟨⟨z, hz, h1, h2⟩, h3⟩
      rw [List.map_singleton, List.mem_singleton] at hz
      subst hz
      exact ⟨⟨h1, h2⟩, fun y hy hin => h3 ⟨_, List.mem_map.2 ⟨_, List.mem_map.2 ⟨y, by simp [hy], rfl⟩, rfl⟩, hin.1, hin.2⟩, fun y hy hin => h3 ⟨_, List.mem_map.2 ⟨_, List.mem_map.2 ⟨y.pf, List.mem_append.2 (.inr (List.mem_map.2 ⟨y, hy, rfl⟩)), rfl⟩, rfl⟩, hin.1, hin.2⟩⟩)
  have h1 := hf.n1
  have h2 := hf.n2
  rw [List.length_map, List.length_append, List.length_map, List.length_singleton] at this
  omega
end Go.Proofs.YtajifionclpphaaGreatDoor

namespace Go.Proofs.YtajifionclpphaaGreatDoor
open Go.RowKit Go.Hw
theorem PlAt.check {w : World} {P : Pl} {AK AL : Option Addr} {cl : Nat} (h : PlAt w P AK AL cl) (hf : FinePl P) (ck : Nat) : Calls Tryz.prog 26 #[plV P.pf (.slice AK P.kept.length ck) (.slice AL P.ls.length cl)] w fun e w' => e = .returned (.int .i64 0) ∧ Below w.heap.size w w' :=
  checkPool0 P AK AL ck cl w h.kept h.ls hf.ok hf.key (by have := hf.n1; omega) (by have := hf.n2; omega) h.cap
set_option maxRecDepth 100000 in
set_option maxHeartbeats 4000000 in
theorem addrFree_any (P : Pl) (AK AL : Option Addr) (ck cl : Nat) (w : World) (h : PlAt w P AK AL cl) (hf : FinePl P) :
    Calls Tryz.prog 21 #[plV P.pf (.slice AK P.kept.length ck) (.slice AL P.ls.length cl)] w fun e w' => ∃ v, e = .returned (.tuple #[v, .int .i64 0]) ∧ VS (freeN P) w' v ∧ Below w.heap.size w w' := by
  have HF := Lib.hid hf
  have b0 := heap_alloc_new w (plBox P.pf (.slice AK P.kept.length ck) (.slice AL P.ls.length cl))
  have HB : Hid (Below w.heap.size w (w.alloc (plBox P.pf (.slice AK P.kept.length ck) (.slice AL P.ls.length cl)))) := Lib.hid ((Below.refl _ _).alloc (Nat.le_refl _) _)
  have H0 := Lib.hid (h.below HB.out)
  clear h hf
  unfold plV
  unfold plBox at b0 HB H0
  go_enter Tryz.func21, Tryz.ntmps21
  go_upto_region 1 with (fail)
  generalize World.alloc w _ = W at b0 HB H0 ⊢
  have BX := Lib.hid b0
  obtain ⟨⟨x0, x1, x2, x3, x4, x5⟩, -⟩ := res6r b0
  clear b0
  have hck := H0.out.check HF.out ck
  unfold plV at hck
  go_wp2_with fail
  refine hck.mono ?_
  rintro e W1 ⟨rfl, hb1⟩
  have BX1 := Lib.hid ((hb1.block _ (lt_of_block BX.out)).trans BX.out)
  have HB1 := Lib.hid (HB.out.trans (hb1.mono HB.out.size))
  have H1 := Lib.hid (H0.out.below hb1)
  have hfr := free_any P AK AL ck cl W1 H1.out HF.out
  unfold plV at hfr
  clear hck hb1 x0 x1 x2 x3 x4 x5 BX HB H0
  obtain ⟨⟨x0, x1, x2, x3, x4, x5⟩, -⟩ := res6r BX1.out
  go_wp2_with fail
  refine hfr.mono ?_
  rintro e W2 ⟨v2, R, S, rfl, ho, hi, hs, hl, hb2⟩
  have HB2 := Lib.hid (HB1.out.trans (hb2.mono HB1.out.size))
  have HI := Lib.hid hi
  have HS := Lib.hid hs
  obtain ⟨A3, c3, rfl, ha3, -⟩ := rg_own ho
  have hfew := free_few HF.out hi.norm hi.fam hs
  have hst := set_any A3 c3 R W2 ha3 hi.ok (by rw [hi.map]; exact hi.norm) (by rw [hi.map]; omega) (by omega)
  rw [hi.map] at hst
  clear hfr ho hi hs hb2 ha3
  go_wp2_with fail
  refine hst.mono ?_
  rintro e W3 ⟨v3, c, Q, rfl, ho3, hb3, h3⟩
  obtain ⟨A4, c4, rfl, ha4, -⟩ := px_own ho3
  rcases h3 with ⟨rfl, h4, h5⟩ | ⟨_, _, h5⟩
  · have HV : Hid (VS (freeN P) W3 (.slice A4 Q.length c4)) := Lib.hid ⟨A4, c4, Q, S, rfl, ha4, h4, HS.out, by rw [h4.len]; exact h5⟩
    have HB3 := Lib.hid (HB2.out.trans (hb3.mono HB2.out.size))
    clear hst ho3 hb3 ha4 h4 h5
    go_wp2_with fail
    go_ret2
    exact ⟨_, rfl, HV.out, HB3.out⟩
  · exact absurd hfew (by omega)
/-- Where a choice stands. -/
def ChI2 (W : World) (nb : Nat) (best : Bool) (n : Int) (Ps : List Pf) (v9 v17 : Value) (wr : World) : Prop :=
  ∃ (k : Nat) (a : Pf × Bool), k ≤ Ps.length ∧ v17 = .int .i64 k ∧ a = (Ps.take k).foldl (pick1 best n) (noPf, false) ∧ v9 = .bool a.2 ∧ wr.heap[nb]? = some (.cells #[.bool a.1.six, .int .u64 a.1.hi, .int .u64 a.1.lo, .int .i64 a.1.bits] 48 (0, 0)) ∧ W.grownBy wr (some nb)
/-- What a choice hands back: the first part of a free prefix, or none. -/
def ChosenIs (w : World) (P : Pl) (n : Int) (e : Ending) (w' : World) : Prop :=
  ∃ (x : Pf) (b : Bool), e = .returned (.tuple #[.agg #[.bool x.six, .int .u64 x.hi, .int .u64 x.lo, .int .i64 n], .bool b]) ∧ x.bits = n ∧
    (b = true → ∃ f, okP f ∧ (∀ k, inP f k → freeN P k) ∧ f.bits ≤ n ∧ x = subP f n) ∧
    (∃ S, NormS S ∧ (∀ z ∈ S, famOk z) ∧ (∀ k, hasS S k ↔ freeN P k) ∧ ((∃ f ∈ preS S, (lenA P.pf.six - n).toNat ≤ f.2) → n ≤ lenA P.pf.six → b = true)) ∧ Below w.heap.size w w'
set_option maxRecDepth 100000 in
set_option maxHeartbeats 8000000 in
theorem choose_any (P : Pl) (AK AL : Option Addr) (ck cl : Nat) (n : Int) (best : Bool) (w : World) (h : PlAt w P AK AL cl) (hf : FinePl P) :
    Calls Tryz.prog 70 #[plV P.pf (.slice AK P.kept.length ck) (.slice AL P.ls.length cl), .int .i64 n, .bool best] w (ChosenIs w P n) := by
  have HF := Lib.hid hf
  have b1 : Below w.heap.size w (((w.alloc (plBox P.pf (.slice AK P.kept.length ck) (.slice AL P.ls.length cl))).alloc (.cells #[.bool false, .int .u64 0, .int .u64 0, .int .i64 0] 48 (0, 0))).alloc (.cells #[.bool false, .int .u64 0, .int .u64 0, .int .i64 0] 48 (0, 0))) := (((Below.refl _ _).alloc (Nat.le_refl _) _).alloc (by simp) _).alloc (by simp <;> omega) _
  have b0 : (((w.alloc (plBox P.pf (.slice AK P.kept.length ck) (.slice AL P.ls.length cl))).alloc (.cells #[.bool false, .int .u64 0, .int .u64 0, .int .i64 0] 48 (0, 0))).alloc (.cells #[.bool false, .int .u64 0, .int .u64 0, .int .i64 0] 48 (0, 0))).heap[w.heap.size]? = some (plBox P.pf (.slice AK P.kept.length ck) (.slice AL P.ls.length cl)) := (heap_alloc_old _ _ (by simp <;> omega)).trans ((heap_alloc_old _ _ (by simp)).trans (heap_alloc_new w _))
  have b2 : (((w.alloc (plBox P.pf (.slice AK P.kept.length ck) (.slice AL P.ls.length cl))).alloc (.cells #[.bool false, .int .u64 0, .int .u64 0, .int .i64 0] 48 (0, 0))).alloc (.cells #[.bool false, .int .u64 0, .int .u64 0, .int .i64 0] 48 (0, 0))).heap[w.heap.size + 1]? = some (.cells #[.bool false, .int .u64 0, .int .u64 0, .int .i64 0] 48 (0, 0)) := (heap_alloc_old _ _ (by simp)).trans (by
    have := heap_alloc_new (w.alloc (plBox P.pf (.slice AK P.kept.length ck) (.slice AL P.ls.length cl))) (.cells #[.bool false, .int .u64 0, .int .u64 0, .int .i64 0] 48 (0, 0))
    simp only [Re_size] at this
    exact this)
  have b3 : (((w.alloc (plBox P.pf (.slice AK P.kept.length ck) (.slice AL P.ls.length cl))).alloc (.cells #[.bool false, .int .u64 0, .int .u64 0, .int .i64 0] 48 (0, 0))).alloc (.cells #[.bool false, .int .u64 0, .int .u64 0, .int .i64 0] 48 (0, 0))).heap[w.heap.size + 2]? = some (.cells #[.bool false, .int .u64 0, .int .u64 0, .int .i64 0] 48 (0, 0)) := by
    have := heap_alloc_new ((w.alloc (plBox P.pf (.slice AK P.kept.length ck) (.slice AL P.ls.length cl))).alloc (.cells #[.bool false, .int .u64 0, .int .u64 0, .int .i64 0] 48 (0, 0))) (.cells #[.bool false, .int .u64 0, .int .u64 0, .int .i64 0] 48 (0, 0))
    simp only [Re_size] at this
    exact this
  have HB := Lib.hid b1
  have H0 := Lib.hid (h.below b1)
  clear h hf b1
  unfold plV
  unfold plBox at b0 b2 b3 HB H0
  go_enter Tryz.func70, Tryz.ntmps70
  go_upto_region 2 with (fail)
  generalize World.alloc (World.alloc (World.alloc w _) _) _ = W at b0 b2 b3 HB H0 ⊢
  have BX := Lib.hid b0
  have BR := Lib.hid b2
  have BA := Lib.hid b3
  obtain ⟨⟨x0, x1, x2, x3, x4, x5⟩, -⟩ := res6r b0
  clear b0 b2 b3
  have hfr := free_any P AK AL ck cl W H0.out HF.out
  unfold plV at hfr
  go_wp2_with fail
  refine hfr.mono ?_
  rintro e W2 ⟨v2, R, S, rfl, ho, hi, hs, hl, hb2⟩
  have HB2 := Lib.hid (HB.out.trans (hb2.mono HB.out.size))
  have BR2 := Lib.hid ((hb2.block _ (lt_of_block BR.out)).trans BR.out)
  have BA2 := Lib.hid ((hb2.block _ (lt_of_block BA.out)).trans BA.out)
  have HI := Lib.hid hi
  have HS := Lib.hid hs
  obtain ⟨A3, c3, rfl, ha3, -⟩ := rg_own ho
  have hfew := free_few HF.out hi.norm hi.fam hs
  have hpf := prefixes_any A3 c3 R W2 ha3 hi.ok (by rw [hi.map]; omega) (by omega)
  rw [hi.map] at hpf
  have hsz := hb2.size
  clear hfr ho hi hs hb2 ha3 x0 x1 x2 x3 x4 x5
  go_wp2_with fail
  refine hpf.mono ?_
  rintro e W3 ⟨v3, Ps, rfl, ho3, hok3, hm3, hb3⟩
  have HB3 := Lib.hid (HB2.out.trans (hb3.mono HB2.out.size))
  have BR3 := Lib.hid ((hb3.block _ (lt_of_block BR2.out)).trans BR2.out)
  have BA3 := Lib.hid ((hb3.block _ (lt_of_block BA2.out)).trans BA2.out)
  have hpl : Ps.length ≤ 890 := by
    have := congrArg List.length hm3
    rw [List.length_map] at this
    omega
  have HOK3 := Lib.hid hok3
  have HM3 := Lib.hid hm3
  obtain ⟨A4, c4, rfl, ha4, -⟩ := px_own ho3
  have HA4 := Lib.hid ha4
  have HNE : Hid (∀ a, A4 = some a → some a.block ≠ some (w.heap.size + 2)) := Lib.hid (fun a ha e => by
    injection e with e
    have h1 := (ho3.lt a.block (by rw [ha]; rfl)).1
    have h2 := lt_of_block BA2.out
    omega)
  clear hpf ho3 hok3 hm3 hb3 ha4
  go_wp2_with fail
  go_loopw [9, 11, 17] (fun v9 _ v17 wr => ChI2 W3 (w.heap.size + 2) best n Ps v9 v17 wr) (fun _ _ v17 _ => Ps.length - (intOf v17).toNat)
  case atStart => exact ⟨0, (noPf, false), Nat.zero_le _, rfl, rfl, rfl, BA3.out, World.grownBy.refl _ _⟩
  case round =>
    obtain ⟨k, a, hk, rfl, ha, rfl, hba, hg⟩ := hrel
    have HAe := Lib.hid ha
    have HBA := Lib.hid hba
    have HG := Lib.hid hg
    by_cases hlt : k < Ps.length
    · obtain ⟨g5, off, hA, hgB, hcc⟩ := (HA4.out.grown hg HNE.out) k hlt
      obtain ⟨c0, c1, c2, c3⟩ := px_cells hcc
      have HST : Hid ((Ps.take (k + 1)).foldl (pick1 best n) (noPf, false) = pick1 best n a (Ps.getD k noPf)) := Lib.hid (by
        rw [ha, List.take_add_one, List.getElem?_eq_getElem hlt, List.getD_eq_getElem?_getD, List.getElem?_eq_getElem hlt, List.foldl_append]
        rfl)
      generalize Ps.getD k noPf = x at *
      have hd : decide ((k : Int) < (Ps.length : Int)) = true := by simp; omega
      subst hA
      have BN := Lib.hid (heap_alloc_new wr (.cells #[.bool x.six, .int .u64 x.hi, .int .u64 x.lo, .int .i64 x.bits] 48 (0, 0)))
      have BA4 := Lib.hid ((Below.heap_alloc wr (.cells #[.bool x.six, .int .u64 x.hi, .int .u64 x.lo, .int .i64 x.bits] 48 (0, 0)) _ (lt_of_block HBA.out)).trans HBA.out)
      have HG4 := Lib.hid (hg.andThen (grownB ((Below.refl _ _).alloc (Nat.le_refl _) (.cells #[.bool x.six, .int .u64 x.hi, .int .u64 x.lo, .int .i64 x.bits] 48 (0, 0))) none) (fun _ h => by cases h))
      obtain ⟨a1, a2⟩ := a
      clear hcc hg hba ha
      go_upto_region 5 with (fail)
      generalize World.alloc wr _ = W4 at BN BA4 HG4 ⊢
      generalize wr.heap.size = nb at BN ⊢
      obtain ⟨⟨y0, y1, y2, y3⟩, -⟩ := res4 BN.out
      obtain ⟨⟨z0, z1, z2, z3⟩, f0, f1, f2, f3⟩ := res4 BA4.out
      have fin : ∀ W9, Re W4 W9 (w.heap.size + 2) #[.bool x.six, .int .u64 x.hi, .int .u64 x.lo, .int .i64 x.bits] 48 → pick1 best n (a1, a2) x = (x, true) → ChI2 W3 (w.heap.size + 2) best n Ps (.bool true) (.int .i64 ((k : Int) + 1)) W9 := fun W9 hr he => ⟨k + 1, (x, true), by omega, by simp, by rw [HST.out, he], rfl, hr.blk, hr.grown HG4.out (.inr rfl)⟩
      have fin0 : pick1 best n (a1, a2) x = (a1, a2) → ChI2 W3 (w.heap.size + 2) best n Ps (.bool a2) (.int .i64 ((k : Int) + 1)) W4 := fun he => ⟨k + 1, (a1, a2), by omega, by simp, by rw [HST.out, he], rfl, BA4.out, HG4.out⟩
      have FIN := Lib.hid fin
      have FIN0 := Lib.hid fin0
      have hmes : Ps.length - (intOf (.int .i64 ((k : Int) + 1))).toNat < Ps.length - (intOf (.int .i64 (k : Int))).toNat := by simp [intOf]; omega
      have HME := Lib.hid hmes
      clear fin fin0 hmes
      by_cases hb : x.bits ≤ n
      · have d1 : decide (x.bits ≤ n) = true := by simpa using hb
        cases a2
        · have hp : pick1 best n (a1, false) x = (x, true) := by unfold pick1; simp [hb]
          have HPK := Lib.hid hp
          clear hp
          go_wp2_with fail
          clear z0 z1 z2 z3 f0 f1 f2 f3
          generalize hW : World.setCell _ _ _ = W9
          exact ⟨FIN.out W9 (re4 BA4.out hW) HPK.out, HME.out⟩
        · cases best
          · have hp : pick1 false n (a1, true) x = (a1, true) := by unfold pick1; simp
            have HPK := Lib.hid hp
            clear hp
            go_wp2_with fail
            exact ⟨FIN0.out HPK.out, HME.out⟩
          · by_cases hgt : a1.bits < x.bits
            · have d2 : decide (a1.bits < x.bits) = true := by simpa using hgt
              have hp : pick1 true n (a1, true) x = (x, true) := by unfold pick1; simp [hb, hgt]
              have HPK := Lib.hid hp
              clear hp
              go_wp2_with fail
              clear z0 z1 z2 z3 f0 f1 f2 f3
              generalize hW : World.setCell _ _ _ = W9
              exact ⟨FIN.out W9 (re4 BA4.out hW) HPK.out, HME.out⟩
            · have d2 : decide (a1.bits < x.bits) = false := by simpa using hgt
              have hp : pick1 true n (a1, true) x = (a1, true) := by unfold pick1; simp [hgt]
              have HPK := Lib.hid hp
              clear hp
              go_wp2_with fail
              exact ⟨FIN0.out HPK.out, HME.out⟩
      · have d1 : decide (x.bits ≤ n) = false := by simpa using hb
        have hp : pick1 best n (a1, a2) x = (a1, a2) := by unfold pick1; simp [hb]
        have HPK := Lib.hid hp
        clear hp
        go_wp2_with fail
        exact ⟨FIN0.out HPK.out, HME.out⟩
    · have hkl : k = Ps.length := by omega
      subst hkl
      rw [List.take_length] at ha
      obtain ⟨q1, q2⟩ := pick_law best n Ps (noPf, false) [] (fun h => by cases h)
      rw [← ha, List.nil_append] at q1
      rw [← ha] at q2
      have hin : ∀ f ∈ Ps, ∀ k, inP f k → freeN P k := fun f hf k hk => by
        rw [← HS.out k, ← preS_has k, ← HM3.out]
        exact ⟨_, List.mem_map.2 ⟨_, List.mem_map.2 ⟨f, hf, rfl⟩, rfl⟩, hk.1, hk.2⟩
      have HCH : Hid ((a.2 = true → ∃ f, okP f ∧ (∀ k, inP f k → freeN P k) ∧ f.bits ≤ n ∧ subP a.1 n = subP f n) ∧
          (∃ S, NormS S ∧ (∀ z ∈ S, famOk z) ∧ (∀ k, hasS S k ↔ freeN P k) ∧ ((∃ f ∈ preS S, (lenA P.pf.six - n).toNat ≤ f.2) → n ≤ lenA P.pf.six → a.2 = true))) := Lib.hid ⟨fun hb => ⟨a.1, HOK3.out _ (q1 hb).1, hin _ (q1 hb).1, (q1 hb).2, rfl⟩, S, HI.out.norm, HI.out.fam, HS.out, by
        rintro ⟨f', hf', hle⟩ hn
        rw [← HM3.out] at hf'
        obtain ⟨f, hf, rfl⟩ := List.mem_map.1 hf'
        refine q2 (.inr ⟨f, hf, ?_⟩)
        have hs6 := (ins_six (HOK3.out f hf) HF.out.ok.pf (fun k hk => (hin f hf k hk).1)).1
        obtain ⟨-, f0, m, fm, -⟩ := HOK3.out f hf
        have hle' : (lenA P.pf.six - n).toNat ≤ (lenA f.six - f.bits).toNat := hle
        rw [hs6] at hle' fm
        omega⟩
      have BRw : wr.heap[w.heap.size + 1]? = some (.cells #[.bool false, .int .u64 0, .int .u64 0, .int .i64 0] 48 (0, 0)) := (hg.block _ (lt_of_block BR3.out) (fun e => by injection e with e; omega)).trans BR3.out
      have HZ := Lib.hid BRw
      have HBW : Hid (Below w.heap.size w wr) := Lib.hid (HB3.out.grown hg HB3.out.size (fun j e => by injection e with e; omega))
      obtain ⟨a1, a2⟩ := a
      obtain ⟨⟨z0, z1, z2, z3⟩, -⟩ := res4 HBA.out
      obtain ⟨⟨r0, r1, r2, r3⟩, f0, f1, f2, f3⟩ := res4 BRw
      clear ha q1 q2 hin hba hg BRw
      go_wp2_with fail
      clear z0 z1 z2 z3 r0 r1 r2 r3 f0 f1 f2 f3
      generalize hW : World.setCell _ _ _ = W9
      have hr := re4 HZ.out hW
      obtain ⟨⟨y0, y1, y2, y3⟩, -⟩ := res4 hr.blk
      refine bodyPost_ret (v := .tuple #[.agg #[.bool a1.six, .int .u64 a1.hi, .int .u64 a1.lo, .int .i64 n], .bool a2]) (by simp [results, Tryz.results70, go_sem, y0, y1, y2, y3]) rfl ⟨subP a1 n, a2, rfl, rfl, HCH.out.1, HCH.out.2, hr.below HBW.out (by omega)⟩
end Go.Proofs.YtajifionclpphaaGreatDoor
