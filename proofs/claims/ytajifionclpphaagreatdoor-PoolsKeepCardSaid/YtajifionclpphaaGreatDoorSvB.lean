/- A region that draws its order and appends a new row last: values known, but for the row that is appended. span.Of. span.Spans.Prefixes. -/
import Derived.Test.YtajifionclpphaaGreatDoorRgT
import Derived.Test.YtajifionclpphaaGreatDoorSwD
import Derived.Test.YtajifionclpphaaGreatDoorAdR
import Derived.Test.YtajifionclpphaaGreatDoorSuA
import Derived.Test.YtajifionclpphaaGreatDoorStU
namespace Go.Proofs.YtajifionclpphaaGreatDoor
open Go.RowKit Go.Hw
def VE (u : Value) : World → Value → Prop := fun _ v => v = u
/-- A row in a block of its own. -/
def VX (cs : Array Value) (T : TypeId) (n : Nat) : World → Value → Prop := fun w v => ∃ g, v = .slice (some ⟨g, 0, none⟩) n n ∧ w.heap[g]? = some (.cells cs T (0, 0))
def VO (l : List (World → Value → Prop)) (i : Nat) : World → Value → Prop := l.getD i (VE undef)
def KeptV (p : World → Value → Prop) : Prop := ∀ w w' v, p w v → Below w.heap.size w w' → p w' v
theorem VE.kept (u : Value) : KeptV (VE u) := fun _ _ _ h _ => h
theorem VX.kept (cs : Array Value) (T : TypeId) (n : Nat) : KeptV (VX cs T n) := fun _ _ _ ⟨g, h1, h2⟩ hb => ⟨g, h1, (hb.block g (lt_of_block h2)).trans h2⟩
theorem VO.kept {l : List (World → Value → Prop)} (h : ∀ p ∈ l, KeptV p) (i : Nat) (w w' : World) (v : Value) (hv : VO l i w v) (hb : Below w.heap.size w w') : VO l i w' v := by
  unfold VO at *
  by_cases hi : i < l.length
  · exact h _ (rw_mem hi) w w' v hv hb
  · rw [List.getD_eq_getElem?_getD, List.getElem?_eq_none (by omega)] at hv ⊢
    exact hv
theorem cells_blk {w : World} {g : Nat} {cs : Array Value} {T : TypeId} (h : w.heap[g]? = some (.cells cs T (0, 0))) : ∀ j u, cs.toList[j]? = some u → w.cell? ((⟨g, 0, none⟩ : Addr).add j) = some u := by
  intro j u hu
  have e : ((⟨g, 0, none⟩ : Addr).add j) = ⟨g, j, none⟩ := by rcases j with _ | j <;> simp [Addr.add]
  rw [e]
  have : cs[j]? = some u := by rw [← hu]; simp
  simp [World.cell?, h, this]
theorem wp_region_app {P : Program} {ops : Array Oper} {Q : Exit → Act → World → Prop} {id : Nat} (n : Nat) {w : World} (A : (Nat → Value) → Act) (l : List (World → Value → Prop)) (W : World) (f0 : Nat → Value) (R : Act → World → Prop)
    (hm : P.follows .mixedOrders = true) (hok : regTail ops n = true) (kept : ∀ p ∈ l, KeptV p)
    (step : ∀ (i : Nat) (o : Oper), i < n → ops[i]? = some o → ∀ (f : Nat → Value) (w : World), Hid (Below W.heap.size W w) → (∀ e ∈ o.after, Region.binds .any e = true → VO l e.on w (f e.on)) →
      Region.wanted o (yielded ops (A f).tmps) = true ∧ o.wp P (A f) w (fun a' w' => ∃ v, a' = A (upd f i v) ∧ VO l i w' v ∧ Below w.heap.size w w') Q)
    (last : ∀ (o : Oper), ops[n]? = some o → ∀ (f : Nat → Value) (w : World), Hid (Below W.heap.size W w) → (∀ j, j < n → VO l j w (f j)) → Region.wanted o (yielded ops (A f).tmps) = true ∧ o.wp P (A f) w R Q)
    (last2 : ∀ (o : Oper), ops[n + 1]? = some o → ∀ (a : Act) (w : World), R a w → Region.wanted o (yielded ops a.tmps) = true ∧ o.wp P a w (fun a' w' => Q .normal a' w') Q)
    (h0 : W = w) : (Code.region id ops true).wp P Q (A f0) w := by
  subst h0
  refine wp_region_tail n A (VO l) (fun _ w' => Hid (Below W.heap.size W w')) (fun w w' => Below w.heap.size w w') f0 R hm hok (fun i w w' v h hb => VO.kept kept i w w' v h hb) ?_ ?_ last2 (Lib.hid (Below.refl _ _).drew)
  · intro i o hi ho f w' k _ hG hd
    obtain ⟨h1, h2⟩ := step i o hi ho f w' hG hd
    refine ⟨h1, Oper.wp_mono (fun a' w2 ⟨v, e1, e2, e3⟩ => ⟨v, e1, e2, Lib.hid (hG.out.trans (e3.mono hG.out.size)), e3⟩) h2⟩
  · intro o ho f w' k _ hG hd
    exact last o ho f w' hG hd
/-- A new block. -/
def VN (W : World) (cs : Array Value) (T : TypeId) : World → Value → Prop := fun w v => ∃ g, v = .pointer (some ⟨g, 0, none⟩) ∧ W.heap.size ≤ g ∧ w.heap[g]? = some (.cells cs T (0, 0))
theorem VN.kept (W : World) (cs : Array Value) (T : TypeId) : KeptV (VN W cs T) := fun _ _ _ ⟨g, h1, h2, h3⟩ hb => ⟨g, h1, h2, (hb.block g (lt_of_block h3)).trans h3⟩
theorem wp_region_last {P : Program} {ops : Array Oper} {Q : Exit → Act → World → Prop} {id : Nat} (n : Nat) {w : World} (A : (Nat → Value) → Act) (l : List (World → Value → Prop)) (W : World) (f0 : Nat → Value)
    (hm : P.follows .mixedOrders = true) (hok : regOk ops n = true) (kept : ∀ p ∈ l, KeptV p)
    (step : ∀ (i : Nat) (o : Oper), i < n → ops[i]? = some o → ∀ (f : Nat → Value) (w : World), Hid (Below W.heap.size W w) → (∀ e ∈ o.after, Region.binds .any e = true → VO l e.on w (f e.on)) →
      o.wp P (A f) w (fun a' w' => ∃ v, a' = A (upd f i v) ∧ VO l i w' v ∧ Below w.heap.size w w') Q)
    (last : ∀ (o : Oper), ops[n]? = some o → ∀ (f : Nat → Value) (w : World), Hid (Below W.heap.size W w) → (∀ j, j < n → VO l j w (f j)) → o.wp P (A f) w (fun a' w' => Q .normal a' w') Q)
    (h0 : W = w) : (Code.region id ops true).wp P Q (A f0) w := by
  subst h0
  refine wp_region_drawn n A (VO l) (fun _ w' => Hid (Below W.heap.size W w')) (fun w w' => Below w.heap.size w w') f0 hm hok (fun i w w' v h hb => VO.kept kept i w w' v h hb) ?_ ?_ (Lib.hid (Below.refl _ _).drew)
  · intro i o hi ho f w' k _ hG hd
    exact Oper.wp_mono (fun a' w2 ⟨v, e1, e2, e3⟩ => ⟨v, e1, e2, Lib.hid (hG.out.trans (e3.mono hG.out.size)), e3⟩) (step i o hi ho f w' hG hd)
  · intro o ho f w' k _ hG hd
    exact last o ho f w' hG hd
end Go.Proofs.YtajifionclpphaaGreatDoor

namespace Go.Proofs.YtajifionclpphaaGreatDoor
open Go.RowKit Go.Hw
/-- The range of a prefix. -/
def rgP (p : Pf) : Rg := ⟨p.six, p.hi, p.lo, p.six, fil p.hi ((lenA p.six - p.bits).toNat - 64), fil p.lo (min 64 (lenA p.six - p.bits).toNat)⟩
theorem rgP_ok {p : Pf} (h : okP p) : okR (rgP p) ∧ rgS (rgP p) = bkS (bkP p) := by
  obtain ⟨m, e1, e2, e3, e4⟩ := last_num h
  have hm : (lenA p.six - p.bits).toNat = m := by omega
  have hp := Nat.two_pow_pos m
  have hk : keyA (laR (rgP p)) + 1 = keyA (fiR (rgP p)) + 2 ^ m := by
    unfold rgP laR fiR keyA keyN
    dsimp only
    rw [hm, e3]
    omega
  have hl : fineA (laR (rgP p)) := by
    unfold rgP laR fineA
    dsimp only
    rw [hm]
    exact e4
  refine ⟨⟨h.1, hl, rfl, by omega⟩, ?_⟩
  show (keyA (fiR (rgP p)), keyA (laR (rgP p)) + 1) = (keyA (adP p), keyA (adP p) + 2 ^ (lenA p.six - p.bits).toNat)
  rw [hk, hm]
  rfl
theorem rgP_map {L : List Pf} (h : ∀ p ∈ L, okP p) : (L.map rgP).map rgS = (L.map bkP).map bkS := by
  rw [List.map_map, List.map_map]
  exact List.map_congr_left fun p hp => (rgP_ok (h p hp)).2
/-- The one form of a set of blocks. -/
structure SetR (R : List Rg) (B : List Bk) : Prop where
  ok : ∀ r ∈ R, okR r
  norm : NormS (R.map rgS)
  has : ∀ n, hasS (R.map rgS) n ↔ hasS (B.map bkS) n
structure SoI (w : World) (L : List Pf) (k : Nat) (v : Value) (wr : World) : Prop where
  below : Below w.heap.size w wr
  row : rgOwn wr w.heap.size v ((L.take k).map rgP)
set_option maxRecDepth 100000 in
set_option maxHeartbeats 4000000 in
theorem spanOf_any (A : Option Addr) (cap : Nat) (L : List Pf) (w : World) (h : pxAt w A L) (hok : ∀ p ∈ L, okP p) (hl : L.length ≤ 100000) :
    Calls Tryz.prog 35 #[.slice A L.length cap] w fun e w' => ∃ v R, e = .returned v ∧ rgOwn w' w.heap.size v R ∧ SetR R (L.map bkP) ∧ R.length ≤ L.length ∧ Below w.heap.size w w' := by
  obtain ⟨i0, hi0, hz0, hz1, hz2⟩ := info_parts rg_info
  have HOK := Lib.hid hok
  have HL := Lib.hid hl
  have HA := Lib.hid h
  clear h hok hl
  go_enter Tryz.func35, Tryz.ntmps35
  go_wp2_with fail
  go_loopw [3, 5, 8] (fun v3 _ v8 wr => ∃ k : Nat, k ≤ L.length ∧ v8 = .int .i64 k ∧ SoI w L k v3 wr) (fun _ _ v8 _ => L.length - (intOf v8).toNat)
  case atStart => exact ⟨0, Nat.zero_le _, rfl, Below.refl _ _, World.ownsRow_nil _ _ _ _⟩
  case round =>
    obtain ⟨k, hk, rfl, hin⟩ := hrel
    have HIN := Lib.hid hin
    clear hin
    by_cases hlt : k < L.length
    · obtain ⟨gA, off, hA, hgA, hcc⟩ := (HA.out.below HIN.out.below) k hlt
      obtain ⟨c0, c1, c2, c3⟩ := px_cells hcc
      have hd : decide ((k : Int) < (L.length : Int)) = true := by simp; omega
      have hlm := HL.out
      have HTK := Lib.hid (take_succ' (L := L) noPf hlt)
      have hp := HOK.out (L.getD k noPf) (rw_mem hlt)
      have HOW := Lib.hid HIN.out.row
      have HHG := HIN.out.below
      generalize hpe : L.getD k noPf = p at *
      obtain ⟨m, e1, e2, -, -⟩ := last_num hp
      have hla := fun W => last_any p.six p.hi p.lo p.bits W hp.1.1 hp.1.2.1 m e1 e2
      have hm : (lenA p.six - p.bits).toNat = m := by omega
      have HRG : Hid (rgP p = ⟨p.six, p.hi, p.lo, p.six, fil p.hi (m - 64), fil p.lo (min 64 m)⟩) := Lib.hid (by unfold rgP; rw [hm])
      have HBX := Lib.hid (HHG.alloc HHG.size (.cells #[.bool p.six, .int .u64 p.hi, .int .u64 p.lo, .int .i64 p.bits] 48 (0, 0)))
      have HNX := Lib.hid (heap_alloc_new wr (.cells #[.bool p.six, .int .u64 p.hi, .int .u64 p.lo, .int .i64 p.bits] 48 (0, 0)))
      have HOX := Lib.hid (World.ownsRow.alloc HOW.out (.cells #[.bool p.six, .int .u64 p.hi, .int .u64 p.lo, .int .i64 p.bits] 48 (0, 0)))
      generalize fil p.hi (m - 64) = lh at *
      generalize fil p.lo (min 64 m) = ll at *
      clear hcc HOW HHG hp hm e1 e2
      subst hA
      go_upto_region 5 with (fail)
      generalize World.alloc wr _ = W2 at *
      generalize wr.heap.size = nb at *
      have hnb := lt_of_block HNX.out
      obtain ⟨⟨d0, d1, d2, d3⟩, -⟩ := res4 HNX.out
      -- OF5
      refine wp_region_app 7 (fun f' => ⟨#[.slice (some ⟨gA, off, none⟩) L.length cap, undef, .slice none 0 0, u3, undef, .pointer (some ⟨nb, 0, none⟩), .slice (some ⟨gA, off, none⟩) L.length cap, .int .i64 L.length, .int .i64 k, .bool true, .pointer (some ⟨gA, off + k * 4, none⟩), .agg #[Value.bool p.six, Value.int IntKind.u64 p.hi, Value.int IntKind.u64 p.lo, Value.int IntKind.i64 p.bits], f' 0, f' 1, f' 2, f' 3, f' 4, f' 5, f' 6, u19, u20, undef, undef], []⟩) [VE (u3), VE (.pointer (some ⟨nb, 0, none⟩)), VE (.agg #[.bool p.six, .int .u64 p.hi, .int .u64 p.lo]), VE (.agg #[.bool p.six, .int .u64 p.hi, .int .u64 p.lo, .int .i64 p.bits]), VE (.agg #[.bool p.six, .int .u64 lh, .int .u64 ll]), VE (.agg #[.bool p.six, .int .u64 p.hi, .int .u64 p.lo, .bool p.six, .int .u64 lh, .int .u64 ll]), VX #[.bool p.six, .int .u64 p.hi, .int .u64 p.lo, .bool p.six, .int .u64 lh, .int .u64 ll] 43 1] W2 (fun i => match i with | 0 => u12 | 1 => u13 | 2 => u14 | 3 => u15 | 4 => u16 | 5 => u17 | 6 => u18 | _ => undef) (fun a' w' => ∃ (v9 : Value) (f' : Nat → Value), a' = ⟨#[.slice (some ⟨gA, off, none⟩) L.length cap, undef, .slice none 0 0, u3, undef, .pointer (some ⟨nb, 0, none⟩), .slice (some ⟨gA, off, none⟩) L.length cap, .int .i64 L.length, .int .i64 k, .bool true, .pointer (some ⟨gA, off + k * 4, none⟩), .agg #[Value.bool p.six, Value.int IntKind.u64 p.hi, Value.int IntKind.u64 p.lo, Value.int IntKind.i64 p.bits], f' 0, f' 1, f' 2, f' 3, f' 4, f' 5, f' 6, v9, u20, undef, undef], []⟩ ∧ SoI w L (k + 1) v9 w') (show Tryz.prog.follows .mixedOrders = true from by kernel_rfl) (by kernel_rfl) ?_ ?_ ?_ ?_ rfl
      · intro p hp
        simp only [List.mem_cons, List.mem_nil_iff, or_false] at hp
        rcases hp with rfl | rfl | rfl | rfl | rfl | rfl | rfl <;> first | exact VE.kept _ | exact VX.kept _ _ _
      · intro i op hi ho f' w' hS hd
        have hcase : i = 0 ∨ i = 1 ∨ i = 2 ∨ i = 3 ∨ i = 4 ∨ i = 5 ∨ i = 6 := by omega
        rcases hcase with rfl | rfl | rfl | rfl | rfl | rfl | rfl <;> (replace ho := Option.some.inj ho; subst ho)
        · refine ⟨rfl, ?_⟩
          unfold Oper.wp
          go_simp
          exact ⟨_, (by first | (simp [upd]; done) | (simp [upd]; omega)), rfl, Below.refl _ _⟩
        · refine ⟨rfl, ?_⟩
          unfold Oper.wp
          go_simp
          exact ⟨_, (by first | (simp [upd]; done) | (simp [upd]; omega)), rfl, Below.refl _ _⟩
        · have e1 : f' 1 = _ := hd ⟨1, .data⟩ (by simp) rfl
          refine ⟨rfl, ?_⟩
          have d0' : w'.cell? ⟨nb, 0, none⟩ = some (.bool p.six) := (hS.out.cell (p := ⟨nb, _, none⟩) hnb).trans d0
          have d1' : w'.cell? ⟨nb, 1, none⟩ = some (.int .u64 p.hi) := (hS.out.cell (p := ⟨nb, _, none⟩) hnb).trans d1
          have d2' : w'.cell? ⟨nb, 2, none⟩ = some (.int .u64 p.lo) := (hS.out.cell (p := ⟨nb, _, none⟩) hnb).trans d2
          unfold Oper.wp
          go_simp
          exact ⟨_, (by first | (simp [upd, e1]; done) | (simp [upd, e1]; omega)), rfl, Below.refl _ _⟩
        · refine ⟨rfl, ?_⟩
          have d0' : w'.cell? ⟨nb, 0, none⟩ = some (.bool p.six) := (hS.out.cell (p := ⟨nb, _, none⟩) hnb).trans d0
          have d1' : w'.cell? ⟨nb, 1, none⟩ = some (.int .u64 p.hi) := (hS.out.cell (p := ⟨nb, _, none⟩) hnb).trans d1
          have d2' : w'.cell? ⟨nb, 2, none⟩ = some (.int .u64 p.lo) := (hS.out.cell (p := ⟨nb, _, none⟩) hnb).trans d2
          have d3' : w'.cell? ⟨nb, 3, none⟩ = some (.int .i64 p.bits) := (hS.out.cell (p := ⟨nb, _, none⟩) hnb).trans d3
          unfold Oper.wp
          go_simp
          exact ⟨_, (by first | (simp [upd]; done) | (simp [upd]; omega)), rfl, Below.refl _ _⟩
        · have e3 : f' 3 = _ := hd ⟨3, .data⟩ (by simp) rfl
          refine ⟨rfl, ?_⟩
          unfold Oper.wp
          go_simp
          refine (hla w').mono ?_
          rintro e w9 ⟨rfl, hb9⟩
          exact ⟨_, (by simp [upd, e3]), rfl, hb9⟩
        · have e2 : f' 2 = _ := hd ⟨2, .data⟩ (by simp) rfl
          have e4 : f' 4 = _ := hd ⟨4, .data⟩ (by simp) rfl
          refine ⟨rfl, ?_⟩
          unfold Oper.wp
          go_simp
          exact ⟨_, (by first | (simp [upd, e2, e4]; done) | (simp [upd, e2, e4]; omega)), rfl, Below.refl _ _⟩
        · have e5 : f' 5 = _ := hd ⟨5, .data⟩ (by simp) rfl
          refine ⟨rfl, ?_⟩
          unfold Oper.wp
          go_simp
          exact ⟨_, (by simp [upd, e5]), ⟨_, rfl, heap_alloc_new _ _⟩, (Below.refl _ _).alloc (Nat.le_refl _) _⟩
      · intro op ho f' w' hS hd
        have e0 : f' 0 = _ := hd 0 (by omega)
        obtain ⟨g9, e9, hg9⟩ := hd 6 (by omega)
        replace ho := Option.some.inj ho
        subst ho
        refine ⟨rfl, ?_⟩
        have hoW := own_belowR HOX.out hS.out (Nat.le_refl _)
        have hbW := HBX.out.trans (hS.out.mono HBX.out.size)
        refine wp_append_own w' (.tmp 12) (.tmp 18) 75 rfl w.heap.size 43 i0 (.agg #[.bool false, .int .u64 0, .int .u64 0, .bool false, .int .u64 0, .int .u64 0]) 6 48 Tryz.underlying75 hi0 hz0 hz1 hz2 rfl (by decide) _ _ _ e0 hoW ⟨g9, 0, none⟩ 1 1 (rgC (rgP p)) e9 rfl (by rw [HRG.out]; exact cells_blk hg9) (rgC_one _) (by have := HL.out; unfold maxLen; simp; omega) (by have := HL.out; simp; omega) hbW.size ?_
        intro v9 w9 ho9 hg9 _
        exact ⟨v9, f', rfl, ⟨hbW.grown hg9 hbW.size (fun j hj => (hoW.lt j hj).1), own_asT ho9 (by rw [HTK.out]; simp) (by rw [HTK.out, List.map_append]; simp [rwC])⟩⟩
      · intro op ho a w' hR
        obtain ⟨v9, f', rfl, hF⟩ := hR
        have HF9 := Lib.hid hF
        clear hF
        replace ho := Option.some.inj ho
        subst ho
        refine ⟨rfl, ?_⟩
        unfold Oper.wp
        go_simp
        go_wp2_with fail
        go_roundw
        case rel => exact ⟨k + 1, by omega, by simp, HF9.out⟩
        case measure => simp [intOf]; omega
      -- END OF5
    · have hkl : k = L.length := by omega
      subst hkl
      have HRW := HIN.out.row
      rw [List.take_length] at HRW
      obtain ⟨A3, c3', rfl, ha3⟩ := rw_at (d := noRg) rgC_len HRW
      have hjn := joined_any A3 c3' (L.map rgP) wr ha3 (fun hn => by
        subst hn
        rcases HRW.2 with ⟨_, h⟩ | ⟨g, cp, cur, e, _⟩
        · exact List.length_eq_zero_iff.1 h
        · cases e) (by
        intro r hr
        obtain ⟨p, hp, rfl⟩ := List.mem_map.1 hr
        exact (rgP_ok (HOK.out p hp)).1) (by rw [List.length_map]; exact HL.out)
      have HB := Lib.hid HIN.out.below
      have HLM := Lib.hid (rgP_map HOK.out)
      rw [List.length_map] at hjn
      clear HRW ha3
      go_wp2_with fail
      refine hjn.mono ?_
      rintro e W9 ⟨v, R, rfl, ho9, hr9, hn9, hs9, hl9, hb9⟩
      have HO9 := Lib.hid ho9
      have HF9 : Hid (SetR R (L.map bkP) ∧ R.length ≤ L.length) := Lib.hid ⟨⟨hr9, hn9, fun n => by rw [← HLM.out]; exact hs9 n⟩, hl9⟩
      have HB9 := Lib.hid (HB.out.trans (hb9.mono HB.out.size))
      have hsz := HB.out.size
      clear ho9 hr9 hn9 hs9 hl9 hb9 hjn
      go_wp2_with fail
      go_ret
      exact ⟨_, R, rfl, own_base HO9.out hsz, HF9.out.1, HF9.out.2, HB9.out⟩
end Go.Proofs.YtajifionclpphaaGreatDoor

namespace Go.Proofs.YtajifionclpphaaGreatDoor
open Go.RowKit Go.Hw
/-- The row so far, and what is to come. -/
def PmI (w : World) (r : Rg) (nb na : Nat) (B0 : List Bk) (n : Nat) (v3 v7 : Value) (wr : World) : Prop :=
  ∃ (P : List Pf) (x : Ad) (left : Bool), v7 = .bool left ∧ (left = true → keyA (laR r) + 1 - keyA x ≤ n) ∧ fineA x ∧ x.six = r.six ∧ pxOwn wr w.heap.size v3 P ∧ (∀ p ∈ P, okP p) ∧ P.map bkP ++ restP left x (keyA (laR r) + 1) = B0 ∧ Below w.heap.size w wr ∧ wr.heap[nb]? = some (.cells #[.bool r.six, .int .u64 r.hi, .int .u64 r.lo, .bool r.six2, .int .u64 r.hi2, .int .u64 r.lo2] 43 (0, 0)) ∧ wr.heap[na]? = some (.cells #[.bool x.six, .int .u64 x.hi, .int .u64 x.lo] 30 (0, 0))
/-- An own row of prefixes lies apart from a block of another type. -/
theorem px_apart {w : World} {base b : Nat} {v : Value} {P : List Pf} {cs : Array Value} {T : TypeId} (h : pxOwn w base v P) (hb : w.heap[b]? = some (.cells cs T (0, 0))) (hT : T ≠ 48) : ∀ k, v.ownBlock = some k → k ≠ b := by
  rintro k hk rfl
  obtain ⟨_, h⟩ := h
  rcases h with ⟨rfl, _⟩ | ⟨g, cap, cur, rfl, h1, h2, h3⟩
  · cases hk
  · injection hk with hk
    subst hk
    rw [h2] at hb
    injection hb with hb
    injection hb with h4 h5
    exact hT h5.symm
/-- What the inner loop looks for. -/
def GrI (wo : World) (x : Ad) (e : Nat) (v8 : Value) (wr : World) : Prop :=
  ∃ m : Nat, v8 = .int .i64 (lenA x.six - m) ∧ m ≤ lenN x.six ∧ 2 ^ m ∣ keyA x ∧ keyA x + 2 ^ m ≤ e ∧ growM (keyA x) e (128 - m) m = bigM (keyA x) e ∧ Below wo.heap.size wo wr
set_option maxRecDepth 100000 in
set_option maxHeartbeats 4000000 in
theorem prefixes_any (A : Option Addr) (cap : Nat) (R : List Rg) (w : World) (h : rgAt w A R) (hok : ∀ r ∈ R, okR r) (hl : (preS (R.map rgS)).length ≤ 1000000) (hl2 : R.length ≤ 100000) :
    Calls Tryz.prog 76 #[.slice A R.length cap] w fun e w' => ∃ v P, e = .returned v ∧ pxOwn w' w.heap.size v P ∧ (∀ p ∈ P, okP p) ∧ P.map bkP = preS (R.map rgS) ∧ Below w.heap.size w w' := by
  obtain ⟨i0, hi0, hz0, hz1, hz2⟩ := info_parts px_info
  have HOK := Lib.hid hok
  have HL := Lib.hid hl
  have HL2 := Lib.hid hl2
  have HA := Lib.hid h
  clear h hok hl hl2
  go_enter Tryz.func76, Tryz.ntmps76
  go_wp2_with fail
  go_loopw [3, 5, 6, 7, 8, 11] (fun v3 _ _ _ _ v11 wr => ∃ (k : Nat) (P : List Pf) (sv : Value), k ≤ R.length ∧ v11 = .int .i64 k ∧ sv = v3 ∧ pxOwn wr w.heap.size sv P ∧ (∀ p ∈ P, okP p) ∧ P.map bkP = preS ((R.take k).map rgS) ∧ Below w.heap.size w wr) (fun _ _ _ _ _ v11 _ => R.length - (intOf v11).toNat)
  case atStart => exact ⟨0, [], _, Nat.zero_le _, rfl, rfl, World.ownsRow_nil _ _ _ _, (by intro p hp; cases hp), rfl, Below.refl _ _⟩
  case round =>
    obtain ⟨k, P, sv, hk, rfl, rfl, ho, hpo, hpm, hb⟩ := hrel
    by_cases hlt : k < R.length
    · obtain ⟨gA, off, hA, hgA, hcc⟩ := (HA.out.below hb) k hlt
      obtain ⟨c0, c1, c2, c3, c4, c5⟩ := rg_cells hcc
      have hd : decide ((k : Int) < (R.length : Int)) = true := by simp; omega
      have HTK := Lib.hid (take_succ' (L := R) noRg hlt)
      have HRO := Lib.hid (HOK.out (R.getD k noRg) (rw_mem hlt))
      have HPL : Hid ((preS ((R.take (k + 1)).map rgS)).length ≤ 1000000) := Lib.hid (by
        have h1 : R.map rgS = (R.take (k + 1)).map rgS ++ (R.drop (k + 1)).map rgS := by rw [← List.map_append, List.take_append_drop]
        have h2 := HL.out
        rw [h1, preS_append, List.length_append] at h2
        omega)
      generalize hpe : R.getD k noRg = r at *
      have HB0 : Hid (preS ((R.take (k + 1)).map rgS) = P.map bkP ++ preG (keyA (fiR r)) (keyA (laR r) + 1)) := Lib.hid (by
        rw [HTK.out, List.map_append, preS_append, hpm]
        congr 1
        exact preS_one (rgS r))
      generalize hB0 : preS ((R.take (k + 1)).map rgS) = B0 at *
      have HBE := Lib.hid hB0
      have HPI : Hid (PmI w r wr.heap.size (wr.heap.size + 1) B0 (keyA (laR r) + 1 - keyA (fiR r)) sv (.bool true) ((wr.alloc (.cells #[.bool r.six, .int .u64 r.hi, .int .u64 r.lo, .bool r.six2, .int .u64 r.hi2, .int .u64 r.lo2] 43 (0, 0))).alloc (.cells #[.bool r.six, .int .u64 r.hi, .int .u64 r.lo] 30 (0, 0)))) := Lib.hid ⟨P, fiR r, true, rfl, fun _ => Nat.le_refl _, HRO.out.f, rfl, (World.ownsRow.alloc ho _).alloc _, hpo, HB0.out.symm, (hb.alloc hb.size _).alloc (by have := hb.size; simp; omega) _, (heap_alloc_old _ _ (by simp)).trans (heap_alloc_new wr _), by have := heap_alloc_new (wr.alloc (.cells #[.bool r.six, .int .u64 r.hi, .int .u64 r.lo, .bool r.six2, .int .u64 r.hi2, .int .u64 r.lo2] 43 (0, 0))) (.cells #[.bool r.six, .int .u64 r.hi, .int .u64 r.lo] 30 (0, 0)); simp only [Re_size] at this; exact this⟩
      clear hcc hpe hB0
      subst hA
      have hlm := HL2.out
      obtain ⟨e, hee⟩ : ∃ e, keyA (laR r) + 1 = e := ⟨_, rfl⟩
      have HEE := Lib.hid hee
      have HNB : Hid (w.heap.size ≤ wr.heap.size) := Lib.hid hb.size
      obtain ⟨n0, hn0⟩ : ∃ n0, keyA (laR r) + 1 - keyA (fiR r) = n0 := ⟨_, rfl⟩
      rw [hn0] at HPI
      clear hee hn0 ho hpo hpm
      go_wp2_with fail
      generalize World.alloc (World.alloc wr _) _ = W1 at *
      generalize wr.heap.size = nb at *
      go_loopg [3, 7, 8] n0 (fun n v3 v7 _ wi => PmI w r nb (nb + 1) B0 n v3 v7 wi)
      case atStart => exact HPI.out
      case round =>
        obtain ⟨P, x, left, rfl, hn, hx, hx6, ho, hpo, hpb, hb, h5, h6⟩ := hrel
        have HB := Lib.hid hb
        have HO := Lib.hid ho
        have HPO := Lib.hid hpo
        have HPB := Lib.hid hpb
        have HX := Lib.hid hx
        have H5 := Lib.hid h5
        have H6 := Lib.hid h6
        have HX6 := Lib.hid hx6
        have HN := Lib.hid hn
        rw [HEE.out] at HPB HN
        have hl5 := lt_of_block h5
        have hl6 := lt_of_block h6
        clear hb ho hpo hpb hx hx6 hn
        cases left
        · have HF : Hid (P.map bkP = preS ((R.take (k + 1)).map rgS)) := Lib.hid (by
            rw [HBE.out, ← HPB.out]
            simp [restP])
          clear h5 h6
          go_wp2_with fail
          go_roundw
          case rel => exact ⟨k + 1, P, _, by omega, by simp, rfl, HO.out, HPO.out, HF.out, HB.out⟩
          case measure => simp [intOf]; omega
        · have hkc := spanC_key HX.out HRO.out.l
          have hcm := fun W => spanCompare_any x.six x.hi x.lo r.six2 r.hi2 r.lo2 W
          obtain ⟨c, hc⟩ : ∃ c, spanC x.six x.hi x.lo r.six2 r.hi2 r.lo2 = c := ⟨_, rfl⟩
          have hkc1 : c ≤ 0 ↔ keyA x < e := by
            have h1 : 0 < c ↔ keyA (laR r) < keyA x := by rw [← hc]; exact hkc.2.2
            have := HEE.out
            omega
          have HKC := Lib.hid hkc1
          rw [hc] at hcm
          obtain ⟨⟨n0, n1, n2, n3, n4, n5⟩, -⟩ := res6r h5
          obtain ⟨x0, x1, x2, -⟩ := res3 h6
          clear h5 h6 hkc hkc1 hc
          obtain ⟨cb, hcb⟩ : ∃ cb, decide (c ≤ 0) = cb := ⟨_, rfl⟩
          go_wp2_with fail
          refine (hcm _).mono ?_
          rintro e' W2 ⟨rfl, hb2⟩
          have HB2 := Lib.hid (HB.out.trans (hb2.mono HB.out.size))
          have HO2 := Lib.hid (own_belowR HO.out hb2 (Nat.le_refl _))
          have H52 := Lib.hid ((hb2.block _ hl5).trans H5.out)
          have H62 := Lib.hid ((hb2.block _ hl6).trans H6.out)
          have hl52 := lt_of_block H52.out
          have hl62 := lt_of_block H62.out
          clear hb2 hcm n0 n1 n2 n3 n4 n5 x0 x1 x2 H5 H6 HB HO hl5 hl6
          cases cb
          · have HF : Hid (P.map bkP = preS ((R.take (k + 1)).map rgS)) := Lib.hid (by
              have h1 : ¬ keyA x < e := fun h => of_decide_eq_false hcb (HKC.out.2 h)
              rw [HBE.out, ← HPB.out]
              simp [restP, preG_none h1])
            go_wp2_with fail
            go_roundw
            case rel => exact ⟨k + 1, P, _, by omega, by simp, rfl, HO2.out, HPO.out, HF.out, HB2.out⟩
            case measure => simp [intOf]; omega
          · have HLT : Hid (keyA x < e) := Lib.hid (HKC.out.1 (of_decide_eq_true hcb))
            obtain ⟨x0, x1, x2, -⟩ := res3 H62.out
            clear HKC
            go_wp2_with fail
            refine (spanLength_any x.six x.hi x.lo W2).mono ?_
            rintro e' W3 ⟨rfl, hb3⟩
            have HB3 := Lib.hid (HB2.out.trans (hb3.mono HB2.out.size))
            have HO3 := Lib.hid (own_belowR HO2.out hb3 (Nat.le_refl _))
            have H53 := Lib.hid ((hb3.block _ hl52).trans H52.out)
            have H63 := Lib.hid ((hb3.block _ hl62).trans H62.out)
            have hl53 := lt_of_block H53.out
            have hl63 := lt_of_block H63.out
            clear hb3 x0 x1 x2 H52 H62 HB2 HO2 hl52 hl62 hcb
            obtain ⟨L0, hL0⟩ : ∃ L0, lenA x.six = L0 := ⟨_, rfl⟩
            have hLN := lenN_A x.six
            have hL8 := lenN_128 x.six
            rw [hL0] at hLN
            have HL0 := Lib.hid hL0
            have HGI : Hid (GrI W3 x e (.int .i64 L0) W3) := Lib.hid ⟨0, by rw [HL0.out]; simp, Nat.zero_le _, Nat.one_dvd _, HLT.out, rfl, Below.refl _ _⟩
            rw [hL0]
            clear hL0
            go_wp2_with fail
            go_loopw [8] (fun v8 wi => GrI W3 x e v8 wi) (fun v8 _ => (intOf v8).toNat)
            case atStart => exact HGI.out
            case round =>
              obtain ⟨m, hv8, hm, hdv, hle, hgm, hbi⟩ := hrel
              subst hv8
              have HDV := Lib.hid hdv
              have HLE := Lib.hid hle
              have HGM := Lib.hid hgm
              have HBI := Lib.hid hbi
              rw [HL0.out]
              clear hdv hle hgm hbi HGI
              have hl5 : nb < wr.heap.size := Nat.lt_of_lt_of_le hl53 HBI.out.size
              have hl6 : nb + 1 < wr.heap.size := Nat.lt_of_lt_of_le hl63 HBI.out.size
              obtain ⟨⟨n0, n1, n2, n3, n4, n5⟩, -⟩ := res6r ((HBI.out.block _ hl53).trans H53.out)
              obtain ⟨x0, x1, x2, -⟩ := res3 ((HBI.out.block _ hl63).trans H63.out)
              obtain ⟨ct, hct⟩ : ∃ ct, decide (m < lenN x.six ∧ 2 ^ (m + 1) ∣ keyA x ∧ keyA x + 2 ^ (m + 1) ≤ e) = ct := ⟨_, rfl⟩
              have HCC := Lib.hid hct
              clear hct
              go_upto_region 8 with (fail)
              go_cut [46] from 27 to 46 (fun v46 wc => v46 = .bool ct ∧ Below wr.heap.size wr wc)
              case first =>
                by_cases hmn : m < lenN x.six
                · have hd0 : decide (0 < L0 - (m : Int)) = true := by simp; omega
                  have hw1 : IntKind.i64.wrap (L0 - (m : Int) - 1) = L0 - ((m + 1 : Nat) : Int) := by rw [IntWalk.i64_in _ (by omega)]; omega
                  have hmk := fun W => masked_any x.six x.hi x.lo (L0 - ((m + 1 : Nat) : Int)) W HX.out.1 HX.out.2.1 (m + 1) (by rw [HL0.out]; omega) (by omega)
                  have hfl := fun W => filled_any x.six x.hi x.lo (L0 - ((m + 1 : Nat) : Int)) W HX.out.1 HX.out.2.1 (m + 1) (by rw [HL0.out]; omega) (by omega)
                  have hma := mask_al HX.out (m := m + 1) (by omega)
                  have hfk := fun h => fill_key HX.out (m := m + 1) (by omega) h
                  have hgd := guard_addr
                  have hq0 := fun a b W => run_eq_addr 9998 x.six x.six a x.hi b x.lo W
                  have hcm0 := fun a b W => spanCompare_any x.six a b r.six2 r.hi2 r.lo2 W
                  have hkc0 := fun a b (h : fineA ⟨x.six, a, b⟩) => (spanC_key h HRO.out.l).2.2
                  generalize clr x.hi (m + 1 - 64) = ch at *
                  generalize clr x.lo (min 64 (m + 1)) = cl at *
                  generalize fil x.hi (m + 1 - 64) = fh at *
                  generalize fil x.lo (min 64 (m + 1)) = fl at *
                  obtain ⟨q, hq⟩ : ∃ q, (x.six == x.six && (ch == x.hi && cl == x.lo)) = q := ⟨_, rfl⟩
                  have hqr := fun W => (hq0 ch cl W).trans (show _ = Result.ok q W from by rw [hq])
                  have hcm := hcm0 fh fl
                  obtain ⟨c2, hc2⟩ : ∃ c2, spanC x.six fh fl r.six2 r.hi2 r.lo2 = c2 := ⟨_, rfl⟩
                  rw [hc2] at hcm
                  obtain ⟨cb, hcb⟩ : ∃ cb, decide (c2 ≤ 0) = cb := ⟨_, rfl⟩
                  have HCT : Hid ((q && cb) = true ↔ 2 ^ (m + 1) ∣ keyA x ∧ keyA x + 2 ^ (m + 1) ≤ e) := Lib.hid (by
                    have hq1 : q = true ↔ 2 ^ (m + 1) ∣ keyA x := by
                      rw [← hma, ← hq]; simp
                    rw [Bool.and_eq_true, hq1, ← hcb, decide_eq_true_eq]
                    constructor
                    · rintro ⟨h1, h2⟩
                      obtain ⟨f1, f2⟩ := hfk h1
                      have h3 : 0 < c2 ↔ keyA (laR r) < keyA ⟨x.six, fh, fl⟩ := by rw [← hc2]; exact hkc0 fh fl f1
                      have := HEE.out
                      exact ⟨h1, by omega⟩
                    · rintro ⟨h1, h2⟩
                      obtain ⟨f1, f2⟩ := hfk h1
                      have h3 : 0 < c2 ↔ keyA (laR r) < keyA ⟨x.six, fh, fl⟩ := by rw [← hc2]; exact hkc0 fh fl f1
                      have := HEE.out
                      exact ⟨h1, by omega⟩)
                  have HCB := Lib.hid hcb
                  clear hma hfk hq0 hcm0 hkc0 hq hc2 hcb
                  have hqc : (q && cb) = ct := by
                    rw [← HCC.out, Bool.eq_iff_iff, HCT.out, decide_eq_true_eq]
                    exact ⟨fun h => ⟨hmn, h⟩, fun h => h.2⟩
                  subst hqc
                  cases q
                  · skip
                    -- R8F
                    refine wp_region_exact 19 (fun f' => ⟨#[.slice (some ⟨gA, off, none⟩) R.length cap, undef, .slice none 0 0, u3, undef, .pointer (some ⟨nb, 0, none⟩), .pointer (some ⟨nb + 1, 0, none⟩), .bool true, .int .i64 (L0 - ↑m), .slice (some ⟨gA, off, none⟩) R.length cap, .int .i64 R.length, .int .i64 k, .bool true, .pointer (some ⟨gA, off + k * 6, none⟩), .agg #[Value.bool r.six, Value.int IntKind.u64 r.hi, Value.int IntKind.u64 r.lo, Value.bool r.six2, Value.int IntKind.u64 r.hi2, Value.int IntKind.u64 r.lo2], .pointer (some ⟨nb, 0, none⟩), .agg #[Value.bool r.six, Value.int IntKind.u64 r.hi, Value.int IntKind.u64 r.lo], .bool true, .bool true, .agg #[Value.bool x.six, Value.int IntKind.u64 x.hi, Value.int IntKind.u64 x.lo], .pointer (some ⟨nb, 3, none⟩), .agg #[Value.bool r.six2, Value.int IntKind.u64 r.hi2, Value.int IntKind.u64 r.lo2], .int .i64 c, .bool true, .bool true, .agg #[Value.bool x.six, Value.int IntKind.u64 x.hi, Value.int IntKind.u64 x.lo], .int .i64 L0, f' 0, f' 1, f' 2, f' 3, f' 4, f' 5, f' 6, f' 7, f' 8, f' 9, f' 10, f' 11, f' 12, f' 13, f' 14, f' 15, f' 16, f' 17, f' 18, u46, u47, u48, u49, u50, u51, u52, u53, u54, u55, u56, u57, u58, u59, u60, u61, u62, undef], []⟩) (fun i => match i with | 0 => .int .i64 (L0 - ↑m) | 1 => .bool true | 2 => .bool true | 3 => .agg #[.bool x.six, .int .u64 x.hi, .int .u64 x.lo] | 4 => .int .i64 (L0 - ↑m) | 5 => .int .i64 (L0 - ((m + 1 : Nat) : Int)) | 6 => .agg #[.bool x.six, .int .u64 ch, .int .u64 cl] | 7 => .agg #[.bool x.six, .int .u64 x.hi, .int .u64 x.lo] | 8 => .bool false | 9 => .bool false | 10 => .bool false | 11 => undef | 12 => undef | 13 => undef | 14 => undef | 15 => undef | 16 => undef | 17 => undef | 18 => undef | _ => undef) (fun lb w' => Hid (Below wr.heap.size wr w')) (fun i => match i with | 0 => u27 | 1 => u28 | 2 => u29 | 3 => u30 | 4 => u31 | 5 => u32 | 6 => u33 | 7 => u34 | 8 => u35 | 9 => u36 | 10 => u37 | 11 => u38 | 12 => u39 | 13 => u40 | 14 => u41 | 15 => u42 | 16 => u43 | 17 => u44 | 18 => u45 | _ => undef) 24 (show Tryz.prog.follows .mixedOrders = true from by kernel_rfl) (by kernel_rfl) ?_ ?_ (Lib.hid (Below.refl _ _).drew)
                    · intro i op hi ho lb f' w' hl hS hd
                      have hcase : i = 0 ∨ i = 1 ∨ i = 2 ∨ i = 3 ∨ i = 4 ∨ i = 5 ∨ i = 6 ∨ i = 7 ∨ i = 8 ∨ i = 9 ∨ i = 10 ∨ i = 11 ∨ i = 12 ∨ i = 13 ∨ i = 14 ∨ i = 15 ∨ i = 16 ∨ i = 17 ∨ i = 18 := by omega
                      rcases hcase with rfl | rfl | rfl | rfl | rfl | rfl | rfl | rfl | rfl | rfl | rfl | rfl | rfl | rfl | rfl | rfl | rfl | rfl | rfl <;> (replace ho := Option.some.inj ho; subst ho)
                      · refine OpStep.of rfl ?_
                        unfold Oper.wp
                        go_simp
                        first | exact ⟨by first | (simp [upd]; done) | (simp [upd]; omega), hS⟩ | (simp [upd]; done) | (simp [upd]; omega)
                      · have e0 : f' 0 = .int .i64 (L0 - ↑m) := (hd ⟨0, .data⟩ (by simp) rfl).2
                        refine OpStep.of rfl ?_
                        unfold Oper.wp
                        go_simp
                        first | exact ⟨by first | (simp [upd, e0]; done) | (simp [upd, e0]; omega), hS⟩ | (simp [upd, e0]; done) | (simp [upd, e0]; omega)
                      · have e1 : f' 1 = .bool true := (hd ⟨1, .data⟩ (by simp) rfl).2
                        refine OpStep.of rfl ?_
                        unfold Oper.wp
                        go_simp
                        first | exact ⟨by first | (simp [upd, e1]; done) | (simp [upd, e1]; omega), hS⟩ | (simp [upd, e1]; done) | (simp [upd, e1]; omega)
                      · refine OpStep.of (by have e2 : f' 2 = .bool true := (hd ⟨2, .guard⟩ (by simp) rfl).2; simp [Region.wanted, yielded, e2]) ?_
                        have x0' : w'.cell? ⟨nb + 1, 0, none⟩ = some (.bool x.six) := (hS.out.cell (p := ⟨nb + 1, _, none⟩) hl6).trans x0
                        have x1' : w'.cell? ⟨nb + 1, 1, none⟩ = some (.int .u64 x.hi) := (hS.out.cell (p := ⟨nb + 1, _, none⟩) hl6).trans x1
                        have x2' : w'.cell? ⟨nb + 1, 2, none⟩ = some (.int .u64 x.lo) := (hS.out.cell (p := ⟨nb + 1, _, none⟩) hl6).trans x2
                        unfold Oper.wp
                        go_simp
                        first | exact ⟨by first | (simp [upd]; done) | (simp [upd]; omega), hS⟩ | (simp [upd]; done) | (simp [upd]; omega)
                      · refine OpStep.of (by have e2 : f' 2 = .bool true := (hd ⟨2, .guard⟩ (by simp) rfl).2; simp [Region.wanted, yielded, e2]) ?_
                        unfold Oper.wp
                        go_simp
                        first | exact ⟨by first | (simp [upd]; done) | (simp [upd]; omega), hS⟩ | (simp [upd]; done) | (simp [upd]; omega)
                      · have e4 : f' 4 = .int .i64 (L0 - ↑m) := (hd ⟨4, .data⟩ (by simp) rfl).2
                        refine OpStep.of (by have e2 : f' 2 = .bool true := (hd ⟨2, .guard⟩ (by simp) rfl).2; simp [Region.wanted, yielded, e2]) ?_
                        unfold Oper.wp
                        go_simp
                        first | exact ⟨by first | (simp [upd, e4]; done) | (simp [upd, e4]; omega), hS⟩ | (simp [upd, e4]; done) | (simp [upd, e4]; omega)
                      · have e3 : f' 3 = .agg #[.bool x.six, .int .u64 x.hi, .int .u64 x.lo] := (hd ⟨3, .data⟩ (by simp) rfl).2
                        have e5 : f' 5 = .int .i64 (L0 - ((m + 1 : Nat) : Int)) := (hd ⟨5, .data⟩ (by simp) rfl).2
                        refine OpStep.of (by have e2 : f' 2 = .bool true := (hd ⟨2, .guard⟩ (by simp) rfl).2; simp [Region.wanted, yielded, e2]) ?_
                        unfold Oper.wp
                        go_simp
                        refine (hmk w').mono ?_
                        rintro e w9 ⟨rfl, hb9⟩
                        exact ⟨by simp [upd, e3, e5], Lib.hid (hS.out.trans (hb9.mono hS.out.size))⟩
                      · refine OpStep.of (by have e2 : f' 2 = .bool true := (hd ⟨2, .guard⟩ (by simp) rfl).2; simp [Region.wanted, yielded, e2]) ?_
                        have x0' : w'.cell? ⟨nb + 1, 0, none⟩ = some (.bool x.six) := (hS.out.cell (p := ⟨nb + 1, _, none⟩) hl6).trans x0
                        have x1' : w'.cell? ⟨nb + 1, 1, none⟩ = some (.int .u64 x.hi) := (hS.out.cell (p := ⟨nb + 1, _, none⟩) hl6).trans x1
                        have x2' : w'.cell? ⟨nb + 1, 2, none⟩ = some (.int .u64 x.lo) := (hS.out.cell (p := ⟨nb + 1, _, none⟩) hl6).trans x2
                        unfold Oper.wp
                        go_simp
                        first | exact ⟨by first | (simp [upd]; done) | (simp [upd]; omega), hS⟩ | (simp [upd]; done) | (simp [upd]; omega)
                      · have e6 : f' 6 = .agg #[.bool x.six, .int .u64 ch, .int .u64 cl] := (hd ⟨6, .data⟩ (by simp) rfl).2
                        have e7 : f' 7 = .agg #[.bool x.six, .int .u64 x.hi, .int .u64 x.lo] := (hd ⟨7, .data⟩ (by simp) rfl).2
                        refine OpStep.of (by have e2 : f' 2 = .bool true := (hd ⟨2, .guard⟩ (by simp) rfl).2; simp [Region.wanted, yielded, e2]) ?_
                        unfold Oper.wp
                        go_simp
                        first | exact ⟨by first | (simp [upd, e6, e7]; done) | (simp [upd, e6, e7]; omega), hS⟩ | (simp [upd, e6, e7]; done) | (simp [upd, e6, e7]; omega)
                      · have e2 : f' 2 = .bool true := (hd ⟨2, .data⟩ (by simp) rfl).2
                        have e8 : f' 8 = .bool false := (hd ⟨8, .data⟩ (by simp) rfl).2
                        refine OpStep.of rfl ?_
                        unfold Oper.wp
                        go_simp
                        first | exact ⟨by first | (simp [upd, e2, e8]; done) | (simp [upd, e2, e8]; omega), hS⟩ | (simp [upd, e2, e8]; done) | (simp [upd, e2, e8]; omega)
                      · have e9 : f' 9 = .bool false := (hd ⟨9, .data⟩ (by simp) rfl).2
                        refine OpStep.of rfl ?_
                        unfold Oper.wp
                        go_simp
                        first | exact ⟨by first | (simp [upd, e9]; done) | (simp [upd, e9]; omega), hS⟩ | (simp [upd, e9]; done) | (simp [upd, e9]; omega)
                      · refine OpStep.not (by have e10 : f' 10 = .bool false := (hd ⟨10, .guard⟩ (by simp) rfl).2; simp [Region.wanted, yielded, e10]) ?_
                        exact ⟨rfl, hS⟩
                      · refine OpStep.not (by have e10 : f' 10 = .bool false := (hd ⟨10, .guard⟩ (by simp) rfl).2; simp [Region.wanted, yielded, e10]) ?_
                        exact ⟨rfl, hS⟩
                      · refine OpStep.not (by have e10 : f' 10 = .bool false := (hd ⟨10, .guard⟩ (by simp) rfl).2; simp [Region.wanted, yielded, e10]) ?_
                        exact ⟨rfl, hS⟩
                      · refine OpStep.not (by have e10 : f' 10 = .bool false := (hd ⟨10, .guard⟩ (by simp) rfl).2; simp [Region.wanted, yielded, e10]) ?_
                        exact ⟨rfl, hS⟩
                      · refine OpStep.not (by have e10 : f' 10 = .bool false := (hd ⟨10, .guard⟩ (by simp) rfl).2; simp [Region.wanted, yielded, e10]) ?_
                        exact ⟨rfl, hS⟩
                      · refine OpStep.not (by have e10 : f' 10 = .bool false := (hd ⟨10, .guard⟩ (by simp) rfl).2; simp [Region.wanted, yielded, e10]) ?_
                        exact ⟨rfl, hS⟩
                      · refine OpStep.not (by have e10 : f' 10 = .bool false := (hd ⟨10, .guard⟩ (by simp) rfl).2; simp [Region.wanted, yielded, e10]) ?_
                        exact ⟨rfl, hS⟩
                      · refine OpStep.not (by have e10 : f' 10 = .bool false := (hd ⟨10, .guard⟩ (by simp) rfl).2; simp [Region.wanted, yielded, e10]) ?_
                        exact ⟨rfl, hS⟩
                    · intro op ho lb f' w' hd hS
                      have e10 : f' 10 = .bool false := (hd 10 (by omega)).2
                      replace ho := Option.some.inj ho
                      subst ho
                      refine ⟨rfl, ?_⟩
                      unfold Oper.wp
                      go_simp
                      first | (go_step; go_step; go_meet) | (go_step; go_meet) | go_meet | skip
                      exact ⟨rfl, hS.out⟩
                    -- END R8F
                  · skip
                    -- R8T
                    refine wp_region_exact 19 (fun f' => ⟨#[.slice (some ⟨gA, off, none⟩) R.length cap, undef, .slice none 0 0, u3, undef, .pointer (some ⟨nb, 0, none⟩), .pointer (some ⟨nb + 1, 0, none⟩), .bool true, .int .i64 (L0 - ↑m), .slice (some ⟨gA, off, none⟩) R.length cap, .int .i64 R.length, .int .i64 k, .bool true, .pointer (some ⟨gA, off + k * 6, none⟩), .agg #[Value.bool r.six, Value.int IntKind.u64 r.hi, Value.int IntKind.u64 r.lo, Value.bool r.six2, Value.int IntKind.u64 r.hi2, Value.int IntKind.u64 r.lo2], .pointer (some ⟨nb, 0, none⟩), .agg #[Value.bool r.six, Value.int IntKind.u64 r.hi, Value.int IntKind.u64 r.lo], .bool true, .bool true, .agg #[Value.bool x.six, Value.int IntKind.u64 x.hi, Value.int IntKind.u64 x.lo], .pointer (some ⟨nb, 3, none⟩), .agg #[Value.bool r.six2, Value.int IntKind.u64 r.hi2, Value.int IntKind.u64 r.lo2], .int .i64 c, .bool true, .bool true, .agg #[Value.bool x.six, Value.int IntKind.u64 x.hi, Value.int IntKind.u64 x.lo], .int .i64 L0, f' 0, f' 1, f' 2, f' 3, f' 4, f' 5, f' 6, f' 7, f' 8, f' 9, f' 10, f' 11, f' 12, f' 13, f' 14, f' 15, f' 16, f' 17, f' 18, u46, u47, u48, u49, u50, u51, u52, u53, u54, u55, u56, u57, u58, u59, u60, u61, u62, undef], []⟩) (fun i => match i with | 0 => .int .i64 (L0 - ↑m) | 1 => .bool true | 2 => .bool true | 3 => .agg #[.bool x.six, .int .u64 x.hi, .int .u64 x.lo] | 4 => .int .i64 (L0 - ↑m) | 5 => .int .i64 (L0 - ((m + 1 : Nat) : Int)) | 6 => .agg #[.bool x.six, .int .u64 ch, .int .u64 cl] | 7 => .agg #[.bool x.six, .int .u64 x.hi, .int .u64 x.lo] | 8 => .bool true | 9 => .bool true | 10 => .bool true | 11 => .agg #[.bool x.six, .int .u64 x.hi, .int .u64 x.lo] | 12 => .int .i64 (L0 - ↑m) | 13 => .int .i64 (L0 - ((m + 1 : Nat) : Int)) | 14 => .agg #[.bool x.six, .int .u64 fh, .int .u64 fl] | 15 => .pointer (some ⟨nb, 3, none⟩) | 16 => .agg #[.bool r.six2, .int .u64 r.hi2, .int .u64 r.lo2] | 17 => .int .i64 c2 | 18 => .bool cb | _ => undef) (fun lb w' => Hid (Below wr.heap.size wr w')) (fun i => match i with | 0 => u27 | 1 => u28 | 2 => u29 | 3 => u30 | 4 => u31 | 5 => u32 | 6 => u33 | 7 => u34 | 8 => u35 | 9 => u36 | 10 => u37 | 11 => u38 | 12 => u39 | 13 => u40 | 14 => u41 | 15 => u42 | 16 => u43 | 17 => u44 | 18 => u45 | _ => undef) 24 (show Tryz.prog.follows .mixedOrders = true from by kernel_rfl) (by kernel_rfl) ?_ ?_ (Lib.hid (Below.refl _ _).drew)
                    · intro i op hi ho lb f' w' hl hS hd
                      have hcase : i = 0 ∨ i = 1 ∨ i = 2 ∨ i = 3 ∨ i = 4 ∨ i = 5 ∨ i = 6 ∨ i = 7 ∨ i = 8 ∨ i = 9 ∨ i = 10 ∨ i = 11 ∨ i = 12 ∨ i = 13 ∨ i = 14 ∨ i = 15 ∨ i = 16 ∨ i = 17 ∨ i = 18 := by omega
                      rcases hcase with rfl | rfl | rfl | rfl | rfl | rfl | rfl | rfl | rfl | rfl | rfl | rfl | rfl | rfl | rfl | rfl | rfl | rfl | rfl <;> (replace ho := Option.some.inj ho; subst ho)
                      · refine OpStep.of rfl ?_
                        unfold Oper.wp
                        go_simp
                        first | exact ⟨by first | (simp [upd]; done) | (simp [upd]; omega), hS⟩ | (simp [upd]; done) | (simp [upd]; omega)
                      · have e0 : f' 0 = .int .i64 (L0 - ↑m) := (hd ⟨0, .data⟩ (by simp) rfl).2
                        refine OpStep.of rfl ?_
                        unfold Oper.wp
                        go_simp
                        first | exact ⟨by first | (simp [upd, e0]; done) | (simp [upd, e0]; omega), hS⟩ | (simp [upd, e0]; done) | (simp [upd, e0]; omega)
                      · have e1 : f' 1 = .bool true := (hd ⟨1, .data⟩ (by simp) rfl).2
                        refine OpStep.of rfl ?_
                        unfold Oper.wp
                        go_simp
                        first | exact ⟨by first | (simp [upd, e1]; done) | (simp [upd, e1]; omega), hS⟩ | (simp [upd, e1]; done) | (simp [upd, e1]; omega)
                      · refine OpStep.of (by have e2 : f' 2 = .bool true := (hd ⟨2, .guard⟩ (by simp) rfl).2; simp [Region.wanted, yielded, e2]) ?_
                        have x0' : w'.cell? ⟨nb + 1, 0, none⟩ = some (.bool x.six) := (hS.out.cell (p := ⟨nb + 1, _, none⟩) hl6).trans x0
                        have x1' : w'.cell? ⟨nb + 1, 1, none⟩ = some (.int .u64 x.hi) := (hS.out.cell (p := ⟨nb + 1, _, none⟩) hl6).trans x1
                        have x2' : w'.cell? ⟨nb + 1, 2, none⟩ = some (.int .u64 x.lo) := (hS.out.cell (p := ⟨nb + 1, _, none⟩) hl6).trans x2
                        unfold Oper.wp
                        go_simp
                        first | exact ⟨by first | (simp [upd]; done) | (simp [upd]; omega), hS⟩ | (simp [upd]; done) | (simp [upd]; omega)
                      · refine OpStep.of (by have e2 : f' 2 = .bool true := (hd ⟨2, .guard⟩ (by simp) rfl).2; simp [Region.wanted, yielded, e2]) ?_
                        unfold Oper.wp
                        go_simp
                        first | exact ⟨by first | (simp [upd]; done) | (simp [upd]; omega), hS⟩ | (simp [upd]; done) | (simp [upd]; omega)
                      · have e4 : f' 4 = .int .i64 (L0 - ↑m) := (hd ⟨4, .data⟩ (by simp) rfl).2
                        refine OpStep.of (by have e2 : f' 2 = .bool true := (hd ⟨2, .guard⟩ (by simp) rfl).2; simp [Region.wanted, yielded, e2]) ?_
                        unfold Oper.wp
                        go_simp
                        first | exact ⟨by first | (simp [upd, e4]; done) | (simp [upd, e4]; omega), hS⟩ | (simp [upd, e4]; done) | (simp [upd, e4]; omega)
                      · have e3 : f' 3 = .agg #[.bool x.six, .int .u64 x.hi, .int .u64 x.lo] := (hd ⟨3, .data⟩ (by simp) rfl).2
                        have e5 : f' 5 = .int .i64 (L0 - ((m + 1 : Nat) : Int)) := (hd ⟨5, .data⟩ (by simp) rfl).2
                        refine OpStep.of (by have e2 : f' 2 = .bool true := (hd ⟨2, .guard⟩ (by simp) rfl).2; simp [Region.wanted, yielded, e2]) ?_
                        unfold Oper.wp
                        go_simp
                        refine (hmk w').mono ?_
                        rintro e w9 ⟨rfl, hb9⟩
                        exact ⟨by simp [upd, e3, e5], Lib.hid (hS.out.trans (hb9.mono hS.out.size))⟩
                      · refine OpStep.of (by have e2 : f' 2 = .bool true := (hd ⟨2, .guard⟩ (by simp) rfl).2; simp [Region.wanted, yielded, e2]) ?_
                        have x0' : w'.cell? ⟨nb + 1, 0, none⟩ = some (.bool x.six) := (hS.out.cell (p := ⟨nb + 1, _, none⟩) hl6).trans x0
                        have x1' : w'.cell? ⟨nb + 1, 1, none⟩ = some (.int .u64 x.hi) := (hS.out.cell (p := ⟨nb + 1, _, none⟩) hl6).trans x1
                        have x2' : w'.cell? ⟨nb + 1, 2, none⟩ = some (.int .u64 x.lo) := (hS.out.cell (p := ⟨nb + 1, _, none⟩) hl6).trans x2
                        unfold Oper.wp
                        go_simp
                        first | exact ⟨by first | (simp [upd]; done) | (simp [upd]; omega), hS⟩ | (simp [upd]; done) | (simp [upd]; omega)
                      · have e6 : f' 6 = .agg #[.bool x.six, .int .u64 ch, .int .u64 cl] := (hd ⟨6, .data⟩ (by simp) rfl).2
                        have e7 : f' 7 = .agg #[.bool x.six, .int .u64 x.hi, .int .u64 x.lo] := (hd ⟨7, .data⟩ (by simp) rfl).2
                        refine OpStep.of (by have e2 : f' 2 = .bool true := (hd ⟨2, .guard⟩ (by simp) rfl).2; simp [Region.wanted, yielded, e2]) ?_
                        unfold Oper.wp
                        go_simp
                        first | exact ⟨by first | (simp [upd, e6, e7]; done) | (simp [upd, e6, e7]; omega), hS⟩ | (simp [upd, e6, e7]; done) | (simp [upd, e6, e7]; omega)
                      · have e2 : f' 2 = .bool true := (hd ⟨2, .data⟩ (by simp) rfl).2
                        have e8 : f' 8 = .bool true := (hd ⟨8, .data⟩ (by simp) rfl).2
                        refine OpStep.of rfl ?_
                        unfold Oper.wp
                        go_simp
                        first | exact ⟨by first | (simp [upd, e2, e8]; done) | (simp [upd, e2, e8]; omega), hS⟩ | (simp [upd, e2, e8]; done) | (simp [upd, e2, e8]; omega)
                      · have e9 : f' 9 = .bool true := (hd ⟨9, .data⟩ (by simp) rfl).2
                        refine OpStep.of rfl ?_
                        unfold Oper.wp
                        go_simp
                        first | exact ⟨by first | (simp [upd, e9]; done) | (simp [upd, e9]; omega), hS⟩ | (simp [upd, e9]; done) | (simp [upd, e9]; omega)
                      · refine OpStep.of (by have e10 : f' 10 = .bool true := (hd ⟨10, .guard⟩ (by simp) rfl).2; simp [Region.wanted, yielded, e10]) ?_
                        have x0' : w'.cell? ⟨nb + 1, 0, none⟩ = some (.bool x.six) := (hS.out.cell (p := ⟨nb + 1, _, none⟩) hl6).trans x0
                        have x1' : w'.cell? ⟨nb + 1, 1, none⟩ = some (.int .u64 x.hi) := (hS.out.cell (p := ⟨nb + 1, _, none⟩) hl6).trans x1
                        have x2' : w'.cell? ⟨nb + 1, 2, none⟩ = some (.int .u64 x.lo) := (hS.out.cell (p := ⟨nb + 1, _, none⟩) hl6).trans x2
                        unfold Oper.wp
                        go_simp
                        first | exact ⟨by first | (simp [upd]; done) | (simp [upd]; omega), hS⟩ | (simp [upd]; done) | (simp [upd]; omega)
                      · refine OpStep.of (by have e10 : f' 10 = .bool true := (hd ⟨10, .guard⟩ (by simp) rfl).2; simp [Region.wanted, yielded, e10]) ?_
                        unfold Oper.wp
                        go_simp
                        first | exact ⟨by first | (simp [upd]; done) | (simp [upd]; omega), hS⟩ | (simp [upd]; done) | (simp [upd]; omega)
                      · have e12 : f' 12 = .int .i64 (L0 - ↑m) := (hd ⟨12, .data⟩ (by simp) rfl).2
                        refine OpStep.of (by have e10 : f' 10 = .bool true := (hd ⟨10, .guard⟩ (by simp) rfl).2; simp [Region.wanted, yielded, e10]) ?_
                        unfold Oper.wp
                        go_simp
                        first | exact ⟨by first | (simp [upd, e12]; done) | (simp [upd, e12]; omega), hS⟩ | (simp [upd, e12]; done) | (simp [upd, e12]; omega)
                      · have e11 : f' 11 = .agg #[.bool x.six, .int .u64 x.hi, .int .u64 x.lo] := (hd ⟨11, .data⟩ (by simp) rfl).2
                        have e13 : f' 13 = .int .i64 (L0 - ((m + 1 : Nat) : Int)) := (hd ⟨13, .data⟩ (by simp) rfl).2
                        refine OpStep.of (by have e10 : f' 10 = .bool true := (hd ⟨10, .guard⟩ (by simp) rfl).2; simp [Region.wanted, yielded, e10]) ?_
                        unfold Oper.wp
                        go_simp
                        refine (hfl w').mono ?_
                        rintro e w9 ⟨rfl, hb9⟩
                        exact ⟨by simp [upd, e11, e13], Lib.hid (hS.out.trans (hb9.mono hS.out.size))⟩
                      · refine OpStep.of (by have e10 : f' 10 = .bool true := (hd ⟨10, .guard⟩ (by simp) rfl).2; simp [Region.wanted, yielded, e10]) ?_
                        unfold Oper.wp
                        go_simp
                        first | exact ⟨by first | (simp [upd]; done) | (simp [upd]; omega), hS⟩ | (simp [upd]; done) | (simp [upd]; omega)
                      · have e15 : f' 15 = .pointer (some ⟨nb, 3, none⟩) := (hd ⟨15, .data⟩ (by simp) rfl).2
                        refine OpStep.of (by have e10 : f' 10 = .bool true := (hd ⟨10, .guard⟩ (by simp) rfl).2; simp [Region.wanted, yielded, e10]) ?_
                        have n3' : w'.cell? ⟨nb, 3, none⟩ = some (.bool r.six2) := (hS.out.cell (p := ⟨nb, _, none⟩) hl5).trans n3
                        have n4' : w'.cell? ⟨nb, 4, none⟩ = some (.int .u64 r.hi2) := (hS.out.cell (p := ⟨nb, _, none⟩) hl5).trans n4
                        have n5' : w'.cell? ⟨nb, 5, none⟩ = some (.int .u64 r.lo2) := (hS.out.cell (p := ⟨nb, _, none⟩) hl5).trans n5
                        unfold Oper.wp
                        go_simp
                        first | exact ⟨by first | (simp [upd, e15]; done) | (simp [upd, e15]; omega), hS⟩ | (simp [upd, e15]; done) | (simp [upd, e15]; omega)
                      · have e14 : f' 14 = .agg #[.bool x.six, .int .u64 fh, .int .u64 fl] := (hd ⟨14, .data⟩ (by simp) rfl).2
                        have e16 : f' 16 = .agg #[.bool r.six2, .int .u64 r.hi2, .int .u64 r.lo2] := (hd ⟨16, .data⟩ (by simp) rfl).2
                        refine OpStep.of (by have e10 : f' 10 = .bool true := (hd ⟨10, .guard⟩ (by simp) rfl).2; simp [Region.wanted, yielded, e10]) ?_
                        unfold Oper.wp
                        go_simp
                        refine (hcm w').mono ?_
                        rintro e w9 ⟨rfl, hb9⟩
                        exact ⟨by simp [upd, e14, e16], Lib.hid (hS.out.trans (hb9.mono hS.out.size))⟩
                      · have e17 : f' 17 = .int .i64 c2 := (hd ⟨17, .data⟩ (by simp) rfl).2
                        refine OpStep.of (by have e10 : f' 10 = .bool true := (hd ⟨10, .guard⟩ (by simp) rfl).2; simp [Region.wanted, yielded, e10]) ?_
                        unfold Oper.wp
                        go_simp
                        first | exact ⟨by first | (simp [upd, e17, HCB.out]; done) | (simp [upd, e17, HCB.out]; omega), hS⟩ | (simp [upd, e17, HCB.out]; done) | (simp [upd, e17, HCB.out]; omega)
                    · intro op ho lb f' w' hd hS
                      have e10 : f' 10 = .bool true := (hd 10 (by omega)).2
                      have e18 : f' 18 = .bool cb := (hd 18 (by omega)).2
                      replace ho := Option.some.inj ho
                      subst ho
                      refine ⟨rfl, ?_⟩
                      unfold Oper.wp
                      go_simp
                      first | (go_step; go_step; go_meet) | (go_step; go_meet) | go_meet | skip
                      exact ⟨rfl, hS.out⟩
                    -- END R8T
                · have hd0 : decide (0 < L0 - (m : Int)) = false := by simp; omega
                  have hcf : ct = false := by
                    rw [← HCC.out]
                    exact decide_eq_false fun h => hmn h.1
                  subst hcf
                  -- R8N
                  refine wp_region_exact 19 (fun f' => ⟨#[.slice (some ⟨gA, off, none⟩) R.length cap, undef, .slice none 0 0, u3, undef, .pointer (some ⟨nb, 0, none⟩), .pointer (some ⟨nb + 1, 0, none⟩), .bool true, .int .i64 (L0 - ↑m), .slice (some ⟨gA, off, none⟩) R.length cap, .int .i64 R.length, .int .i64 k, .bool true, .pointer (some ⟨gA, off + k * 6, none⟩), .agg #[Value.bool r.six, Value.int IntKind.u64 r.hi, Value.int IntKind.u64 r.lo, Value.bool r.six2, Value.int IntKind.u64 r.hi2, Value.int IntKind.u64 r.lo2], .pointer (some ⟨nb, 0, none⟩), .agg #[Value.bool r.six, Value.int IntKind.u64 r.hi, Value.int IntKind.u64 r.lo], .bool true, .bool true, .agg #[Value.bool x.six, Value.int IntKind.u64 x.hi, Value.int IntKind.u64 x.lo], .pointer (some ⟨nb, 3, none⟩), .agg #[Value.bool r.six2, Value.int IntKind.u64 r.hi2, Value.int IntKind.u64 r.lo2], .int .i64 c, .bool true, .bool true, .agg #[Value.bool x.six, Value.int IntKind.u64 x.hi, Value.int IntKind.u64 x.lo], .int .i64 L0, f' 0, f' 1, f' 2, f' 3, f' 4, f' 5, f' 6, f' 7, f' 8, f' 9, f' 10, f' 11, f' 12, f' 13, f' 14, f' 15, f' 16, f' 17, f' 18, u46, u47, u48, u49, u50, u51, u52, u53, u54, u55, u56, u57, u58, u59, u60, u61, u62, undef], []⟩) (fun i => match i with | 0 => .int .i64 (L0 - ↑m) | 1 => .bool false | 2 => .bool false | 3 => undef | 4 => undef | 5 => undef | 6 => undef | 7 => undef | 8 => undef | 9 => .bool false | 10 => .bool false | 11 => undef | 12 => undef | 13 => undef | 14 => undef | 15 => undef | 16 => undef | 17 => undef | 18 => undef | _ => undef) (fun lb w' => Hid (Below wr.heap.size wr w')) (fun i => match i with | 0 => u27 | 1 => u28 | 2 => u29 | 3 => u30 | 4 => u31 | 5 => u32 | 6 => u33 | 7 => u34 | 8 => u35 | 9 => u36 | 10 => u37 | 11 => u38 | 12 => u39 | 13 => u40 | 14 => u41 | 15 => u42 | 16 => u43 | 17 => u44 | 18 => u45 | _ => undef) 24 (show Tryz.prog.follows .mixedOrders = true from by kernel_rfl) (by kernel_rfl) ?_ ?_ (Lib.hid (Below.refl _ _).drew)
                  · intro i op hi ho lb f' w' hl hS hd
                    have hcase : i = 0 ∨ i = 1 ∨ i = 2 ∨ i = 3 ∨ i = 4 ∨ i = 5 ∨ i = 6 ∨ i = 7 ∨ i = 8 ∨ i = 9 ∨ i = 10 ∨ i = 11 ∨ i = 12 ∨ i = 13 ∨ i = 14 ∨ i = 15 ∨ i = 16 ∨ i = 17 ∨ i = 18 := by omega
                    rcases hcase with rfl | rfl | rfl | rfl | rfl | rfl | rfl | rfl | rfl | rfl | rfl | rfl | rfl | rfl | rfl | rfl | rfl | rfl | rfl <;> (replace ho := Option.some.inj ho; subst ho)
                    · refine OpStep.of rfl ?_
                      unfold Oper.wp
                      go_simp
                      first | exact ⟨by first | (simp [upd]; done) | (simp [upd]; omega), hS⟩ | (simp [upd]; done) | (simp [upd]; omega)
                    · have e0 : f' 0 = .int .i64 (L0 - ↑m) := (hd ⟨0, .data⟩ (by simp) rfl).2
                      refine OpStep.of rfl ?_
                      unfold Oper.wp
                      go_simp
                      first | exact ⟨by first | (simp [upd, e0]; done) | (simp [upd, e0]; omega), hS⟩ | (simp [upd, e0]; done) | (simp [upd, e0]; omega)
                    · have e1 : f' 1 = .bool false := (hd ⟨1, .data⟩ (by simp) rfl).2
                      refine OpStep.of rfl ?_
                      unfold Oper.wp
                      go_simp
                      first | exact ⟨by first | (simp [upd, e1]; done) | (simp [upd, e1]; omega), hS⟩ | (simp [upd, e1]; done) | (simp [upd, e1]; omega)
                    · refine OpStep.not (by have e2 : f' 2 = .bool false := (hd ⟨2, .guard⟩ (by simp) rfl).2; simp [Region.wanted, yielded, e2]) ?_
                      exact ⟨rfl, hS⟩
                    · refine OpStep.not (by have e2 : f' 2 = .bool false := (hd ⟨2, .guard⟩ (by simp) rfl).2; simp [Region.wanted, yielded, e2]) ?_
                      exact ⟨rfl, hS⟩
                    · refine OpStep.not (by have e2 : f' 2 = .bool false := (hd ⟨2, .guard⟩ (by simp) rfl).2; simp [Region.wanted, yielded, e2]) ?_
                      exact ⟨rfl, hS⟩
                    · refine OpStep.not (by have e2 : f' 2 = .bool false := (hd ⟨2, .guard⟩ (by simp) rfl).2; simp [Region.wanted, yielded, e2]) ?_
                      exact ⟨rfl, hS⟩
                    · refine OpStep.not (by have e2 : f' 2 = .bool false := (hd ⟨2, .guard⟩ (by simp) rfl).2; simp [Region.wanted, yielded, e2]) ?_
                      exact ⟨rfl, hS⟩
                    · refine OpStep.not (by have e2 : f' 2 = .bool false := (hd ⟨2, .guard⟩ (by simp) rfl).2; simp [Region.wanted, yielded, e2]) ?_
                      exact ⟨rfl, hS⟩
                    · have e2 : f' 2 = .bool false := (hd ⟨2, .data⟩ (by simp) rfl).2
                      have e8 : f' 8 = undef := (hd ⟨8, .data⟩ (by simp) rfl).2
                      refine OpStep.of rfl ?_
                      unfold Oper.wp
                      go_simp
                      first | exact ⟨by first | (simp [upd, e2, e8]; done) | (simp [upd, e2, e8]; omega), hS⟩ | (simp [upd, e2, e8]; done) | (simp [upd, e2, e8]; omega)
                    · have e9 : f' 9 = .bool false := (hd ⟨9, .data⟩ (by simp) rfl).2
                      refine OpStep.of rfl ?_
                      unfold Oper.wp
                      go_simp
                      first | exact ⟨by first | (simp [upd, e9]; done) | (simp [upd, e9]; omega), hS⟩ | (simp [upd, e9]; done) | (simp [upd, e9]; omega)
                    · refine OpStep.not (by have e10 : f' 10 = .bool false := (hd ⟨10, .guard⟩ (by simp) rfl).2; simp [Region.wanted, yielded, e10]) ?_
                      exact ⟨rfl, hS⟩
                    · refine OpStep.not (by have e10 : f' 10 = .bool false := (hd ⟨10, .guard⟩ (by simp) rfl).2; simp [Region.wanted, yielded, e10]) ?_
                      exact ⟨rfl, hS⟩
                    · refine OpStep.not (by have e10 : f' 10 = .bool false := (hd ⟨10, .guard⟩ (by simp) rfl).2; simp [Region.wanted, yielded, e10]) ?_
                      exact ⟨rfl, hS⟩
                    · refine OpStep.not (by have e10 : f' 10 = .bool false := (hd ⟨10, .guard⟩ (by simp) rfl).2; simp [Region.wanted, yielded, e10]) ?_
                      exact ⟨rfl, hS⟩
                    · refine OpStep.not (by have e10 : f' 10 = .bool false := (hd ⟨10, .guard⟩ (by simp) rfl).2; simp [Region.wanted, yielded, e10]) ?_
                      exact ⟨rfl, hS⟩
                    · refine OpStep.not (by have e10 : f' 10 = .bool false := (hd ⟨10, .guard⟩ (by simp) rfl).2; simp [Region.wanted, yielded, e10]) ?_
                      exact ⟨rfl, hS⟩
                    · refine OpStep.not (by have e10 : f' 10 = .bool false := (hd ⟨10, .guard⟩ (by simp) rfl).2; simp [Region.wanted, yielded, e10]) ?_
                      exact ⟨rfl, hS⟩
                    · refine OpStep.not (by have e10 : f' 10 = .bool false := (hd ⟨10, .guard⟩ (by simp) rfl).2; simp [Region.wanted, yielded, e10]) ?_
                      exact ⟨rfl, hS⟩
                  · intro op ho lb f' w' hd hS
                    have e10 : f' 10 = .bool false := (hd 10 (by omega)).2
                    replace ho := Option.some.inj ho
                    subst ho
                    refine ⟨rfl, ?_⟩
                    unfold Oper.wp
                    go_simp
                    first | (go_step; go_step; go_meet) | (go_step; go_meet) | go_meet | skip
                    exact ⟨rfl, hS.out⟩
                  -- END R8N
              case rest =>
              obtain ⟨rfl, hbc⟩ := hcut
              obtain ⟨W4, rfl⟩ : ∃ W4 : World, W4 = wc := ⟨_, rfl⟩
              have HBC := Lib.hid (HBI.out.trans (hbc.mono HBI.out.size))
              clear hbc n0 n1 n2 n3 n4 n5 x0 x1 x2 hl5 hl6 HBI
              cases ct
              · have hef : e ≤ famE x.six := by
                  have h1 := (keyA_lt HRO.out.l).2
                  have h2 : (laR r).six = x.six := HRO.out.six.trans HX6.out.symm
                  rw [h2] at h1
                  have := HEE.out
                  omega
                have hst := grow_stop (x := x) hef hm (of_decide_eq_false HCC.out)
                rw [HGM.out] at hst
                have HM := Lib.hid hst
                have hfk := fill_key HX.out hm HDV.out
                have hfl := fun W => filled_any x.six x.hi x.lo (L0 - (m : Int)) W HX.out.1 HX.out.2.1 m (by rw [HL0.out]; omega) (by omega)
                have hro := right_of HX.out hm HDV.out
                rw [HL0.out] at hro
                have HPO4 : Hid (∀ p ∈ P ++ [(⟨x.six, x.hi, x.lo, L0 - (m : Int)⟩ : Pf)], okP p) := Lib.hid (fun p hp => (List.mem_append.1 hp).elim (HPO.out p) (fun h => by simp at h; rw [h]; exact hro))
                have HPG : Hid ((P ++ [(⟨x.six, x.hi, x.lo, L0 - (m : Int)⟩ : Pf)]).map bkP ++ preG (keyA x + 2 ^ m) e = B0) := Lib.hid (by
                  rw [← HPB.out, ← HL0.out, List.map_append, List.append_assoc]
                  congr 1
                  show bkP ⟨x.six, x.hi, x.lo, lenA x.six - m⟩ :: preG (keyA x + 2 ^ m) e = restP true x e
                  rw [bk_new]
                  unfold restP
                  rw [if_pos rfl, preG_some HLT.out, HM.out])
                have HPN : Hid (P.length + 1 ≤ 1000000) := Lib.hid (by
                  have h1 := congrArg List.length HPG.out
                  rw [List.length_append, List.length_map, List.length_append] at h1
                  have := HPL.out
                  simp only [List.length_cons, List.length_nil] at h1
                  omega)
                generalize fil x.hi (m - 64) = fh at *
                generalize fil x.lo (min 64 m) = fl at *
                have HFK := Lib.hid hfk
                have hnx := fun W => next_any' x.six fh fl W HFK.out.1
                have hek := end_key HFK.out.1
                have HEK : Hid (endA x.six fh fl = decide (keyA x + 2 ^ m = famE x.six)) := Lib.hid (by rw [← HFK.out.2]; exact hek)
                have HNK : Hid (endA x.six fh fl = false → keyA ⟨x.six, nxH fh fl, nxL fl⟩ = keyA x + 2 ^ m ∧ fineA ⟨x.six, nxH fh fl, nxL fl⟩) := Lib.hid (fun he => by
                  obtain ⟨h1, h2⟩ := next_key HFK.out.1 he
                  exact ⟨h1.trans HFK.out.2, h2⟩)
                have HEF := Lib.hid hef
                generalize nxH fh fl = gh at *
                generalize nxL fl = gl at *
                generalize endA x.six fh fl = eb at *
                have HB4 := Lib.hid (HB3.out.trans (HBC.out.mono HB3.out.size))
                have HO4 := Lib.hid (own_belowR HO3.out HBC.out (Nat.le_refl _))
                have H54 := Lib.hid ((HBC.out.block _ hl53).trans H53.out)
                have H64 := Lib.hid ((HBC.out.block _ hl63).trans H63.out)
                obtain ⟨x0, x1, x2, -⟩ := res3 H64.out
                have HAP5 := Lib.hid (px_apart HO4.out H54.out (by decide))
                have HAP6 := Lib.hid (px_apart HO4.out H64.out (by decide))
                have hl54 := lt_of_block H54.out
                have hl64 := lt_of_block H64.out
                clear hef hst hfk hro hek hl53 hl63 HBC HB3 HO3 H53 H63 HDV HLE HGM HCC
                go_wp2_with (at_builtin; refine wpList_append_own _ rfl (.tmp 49) (.tmp 53) 26 rfl w.heap.size 48 i0 (.agg #[.bool false, .int .u64 0, .int .u64 0, .int .i64 0]) 4 32 Tryz.underlying26 hi0 hz0 hz1 hz2 rfl (by decide) _ _ _ rfl (World.ownsRow.alloc HO4.out _) ⟨W4.heap.size, 0, none⟩ 1 1 [.bool x.six, .int .u64 x.hi, .int .u64 x.lo, .int .i64 (L0 - (m : Int))] rfl rfl (cells_new W4 [.bool x.six, .int .u64 x.hi, .int .u64 x.lo, .int .i64 (L0 - (m : Int))] _) (by simp [Value.oneCell']) (by have := HPN.out; unfold maxLen; first | omega | (simp; omega)) (by have := HPN.out; first | omega | (simp; omega)) (by have := HB4.out.size; first | omega | (simp; omega) | simp) ?_)
                intro v5 w5 ho5 hg5 _
                have hoA := World.ownsRow.alloc HO4.out (.cells #[.bool x.six, .int .u64 x.hi, .int .u64 x.lo, .int .i64 (L0 - (m : Int))] 48 (0, 0))
                have hbA := HB4.out.alloc HB4.out.size (.cells #[.bool x.six, .int .u64 x.hi, .int .u64 x.lo, .int .i64 (L0 - (m : Int))] 48 (0, 0))
                have HB5 : Hid (Below w.heap.size w w5) := Lib.hid (hbA.grown hg5 hbA.size (fun j hj => (hoA.lt j hj).1))
                have HO5 : Hid (pxOwn w5 w.heap.size v5 (P ++ [(⟨x.six, x.hi, x.lo, L0 - (m : Int)⟩ : Pf)])) := Lib.hid (own_asT ho5 (by simp) (by simp [rwC, pxC]))
                have H55 := Lib.hid ((hg5.block nb (by simp; omega) (fun h => HAP5.out nb h.symm rfl)).trans ((heap_alloc_old _ _ hl54).trans H54.out))
                have H65 := Lib.hid ((hg5.block (nb + 1) (by simp; omega) (fun h => HAP6.out _ h.symm rfl)).trans ((heap_alloc_old _ _ hl64).trans H64.out))
                clear ho5 hg5 hoA hbA x0 x1 x2 H54 H64 HO4 HB4 HAP5 HAP6 hl54 hl64
                obtain ⟨x0, x1, x2, -⟩ := res3 H65.out
                go_wp2_with fail
                refine (hfl w5).mono ?_
                rintro e' W6 ⟨rfl, hb6⟩
                have HB6 := Lib.hid (HB5.out.trans (hb6.mono HB5.out.size))
                have HO6 := Lib.hid (own_belowR HO5.out hb6 (Nat.le_refl _))
                have H56 := Lib.hid ((hb6.block _ (lt_of_block H55.out)).trans H55.out)
                have H66 := Lib.hid ((hb6.block _ (lt_of_block H65.out)).trans H65.out)
                clear hb6 x0 x1 x2 H55 H65 HO5 HB5 hfl
                go_wp2_with fail
                refine (hnx W6).mono ?_
                rintro e' W7 ⟨rfl, hb7⟩
                have HB7 := Lib.hid (HB6.out.trans (hb7.mono HB6.out.size))
                have HO7 := Lib.hid (own_belowR HO6.out hb7 (Nat.le_refl _))
                have H57 := Lib.hid ((hb7.block _ (lt_of_block H56.out)).trans H56.out)
                have H67 := Lib.hid ((hb7.block _ (lt_of_block H66.out)).trans H66.out)
                have HAP7 := Lib.hid (px_apart HO7.out H67.out (by decide))
                clear hb7 H56 H66 HO6 HB6 hnx
                cases eb
                · obtain ⟨hk9, hf9⟩ := HNK.out rfl
                  have HK9 := Lib.hid hk9
                  have HF9 := Lib.hid hf9
                  clear hk9 hf9
                  simp only [Bool.false_eq_true, if_false, Bool.not_false]
                  obtain ⟨x0, x1, x2, f0, f1, f2⟩ := res3 H67.out
                  go_wp2_with fail
                  generalize hW : World.setCell _ _ _ = W9
                  have hr := re3 H67.out hW
                  have HR := Lib.hid hr
                  clear hr hW x0 x1 x2 f0 f1 f2
                  go_roundg (e - (keyA x + 2 ^ m))
                  case measure =>
                    have h1 := HN.out trivial
                    have h2 := HLT.out
                    have h3 := Nat.two_pow_pos m
                    omega
                  case rel =>
                    refine ⟨P ++ [(⟨x.six, x.hi, x.lo, L0 - (m : Int)⟩ : Pf)], ⟨x.six, gh, gl⟩, true, rfl, fun _ => by have := HK9.out; have := HEE.out; omega, HF9.out, HX6.out, ?_, HPO4.out, by have h1 := HPG.out; have h2 := HK9.out; have h3 := HEE.out; unfold restP; rw [if_pos rfl, h2, h3]; exact h1, HR.out.below HB7.out (by have := HB7.out.size; have := HNB.out; omega), (HR.out.oth _ (by omega)).trans H57.out, HR.out.blk⟩
                    exact rw_same HO7.out fun k hk => HR.out.oth _ (HAP7.out k hk)
                · have HKE : Hid (¬ keyA x + 2 ^ m < e) := Lib.hid (by
                    have h1 := of_decide_eq_true HEK.out.symm
                    have h2 := HEF.out
                    omega)
                  simp only [if_true, Bool.not_true]
                  obtain ⟨x0, x1, x2, f0, f1, f2⟩ := res3 H67.out
                  go_wp2_with fail
                  generalize hW : World.setCell _ _ _ = W9
                  have hr := re3 H67.out hW
                  have HR := Lib.hid hr
                  clear hr hW x0 x1 x2 f0 f1 f2
                  go_roundg (e - (keyA x + 2 ^ m))
                  case measure =>
                    have h1 := HN.out trivial
                    have h2 := HLT.out
                    have h3 := Nat.two_pow_pos m
                    omega
                  case rel =>
                    refine ⟨P ++ [(⟨x.six, x.hi, x.lo, L0 - (m : Int)⟩ : Pf)], ⟨x.six, fh, fl⟩, false, rfl, (fun h => by cases h), HFK.out.1, HX6.out, ?_, HPO4.out, by have h1 := HPG.out; rw [preG_none HKE.out] at h1; exact h1, HR.out.below HB7.out (by have := HB7.out.size; have := HNB.out; omega), (HR.out.oth _ (by omega)).trans H57.out, HR.out.blk⟩
                    exact rw_same HO7.out fun k hk => HR.out.oth _ (HAP7.out k hk)
              · have hcc := of_decide_eq_true HCC.out
                have HG : Hid (GrI W3 x e (.int .i64 (L0 - ((m + 1 : Nat) : Int))) W4) := Lib.hid ⟨m + 1, by rw [HL0.out], by omega, hcc.2.1, hcc.2.2, by rw [← grow_go (by omega) hcc]; exact HGM.out, HBC.out⟩
                have hw1 : IntKind.i64.wrap (L0 - (m : Int) - 1) = L0 - ((m + 1 : Nat) : Int) := by rw [IntWalk.i64_in _ (by omega)]; omega
                have hmm := hcc.1
                clear hcc
                go_wp2_with fail
                go_roundw
                case rel => exact HG.out
                case measure => simp [intOf]; omega
    · have hkl : k = R.length := by omega
      subst hkl
      rw [List.take_length] at hpm
      have HF := Lib.hid hpm
      have HO := Lib.hid ho
      have HB := Lib.hid hb
      clear hpm ho hb
      go_wp2_with fail
      go_ret
      exact ⟨_, P, rfl, HO.out, hpo, HF.out, HB.out⟩
end Go.Proofs.YtajifionclpphaaGreatDoor
