/- Stream.RightPool. -/
import Derived.Test.YtajifionclpphaaGreatDoorPoN
namespace Go.Proofs.YtajifionclpphaaGreatDoor
open Go.RowKit Go.Hw
/-- The keys of leases that are drawn. -/
def rpKeys : List (List UInt8) := [[108, 97], [108, 98], [108, 99], [108, 100]]
/-- A pool that is drawn. -/
def RightPoolIs (w : World) (b : Nat) (A : Option Addr) (cap : Nat) (l : List Int) (x : Int) (e : Ending) (w' : World) : Prop :=
  ∃ (P : Pl) (AK AL : Option Addr) (ck cl : Nat), e = .returned (plV P.pf (.slice AK P.kept.length ck) (.slice AL P.ls.length cl)) ∧ PlAt w' P AK AL cl ∧ FinePl P ∧ P.ls.length ≤ 4 ∧ (∀ y ∈ P.ls, y.key ∈ rpKeys) ∧ RpBase P.pf ∧ RowsFrom AK AL w.heap.size ∧ StrTo w w' b A cap l x 400
theorem DS.row {w0 w w' : World} {b : Nat} {A : Option Addr} {cap : Nat} {l : List Int} {at_ m : Int} {bs : List DBk} (h : DS w0 w b A cap l at_ m bs) {r : Option Nat} (hg : w.grownBy w' r) (hr : ∀ j, r = some j → w0.heap.size ≤ j ∧ ∀ p ∈ bs, p.1 ≠ j) : DS w0 w' b A cap l at_ m bs := by
  obtain ⟨y, h1, h2, h3, h4⟩ := h.to
  have hb := h.b0
  exact ⟨⟨y, h1, h2, h3.grown hg (fun j hj => by have := (hr j hj).1; omega), h4.andThen hg (fun j hj => .inl (hr j hj).1)⟩, fun p hp => (hg.block p.1 (lt_of_block (h.blk p hp)) (fun e => (hr p.1 e.symm).2 p hp rfl)).trans (h.blk p hp), h.own, h.ne, h.b0⟩
def plA (pf : Pf) (K L : Value) : Array Value := #[.bool pf.six, .int .u64 pf.hi, .int .u64 pf.lo, .int .i64 pf.bits, K, L]
theorem RpBase.ok {pf : Pf} (h : RpBase pf) : okP pf := by
  obtain ⟨s, hi, lo, n⟩ := pf
  rcases h with ⟨h1, h2, h3, h4, h5⟩ | ⟨h1, h2, h3, h4, h5⟩ <;> simp only at h1 h2 h3 h4 h5 <;> subst h1 h2 h3
  · have hA : AddrFine false 0 167772160 := by unfold AddrFine; decide
    refine ⟨hA, by show (0 : Int) ≤ n; omega, (32 - n).toNat, by show (32 : Int) - n = _; omega, by omega, by unfold clr; simp, ?_⟩
    have hm : (32 - n).toNat = 3 ∨ (32 - n).toNat = 4 ∨ (32 - n).toNat = 5 ∨ (32 - n).toNat = 6 ∨ (32 - n).toNat = 7 ∨ (32 - n).toNat = 8 := by omega
    show clr 167772160 (min 64 (32 - n).toNat) = 167772160
    rcases hm with h | h | h | h | h | h <;> rw [h] <;> decide
  · have hA : AddrFine true 18230571291595767808 0 := by unfold AddrFine; decide
    refine ⟨hA, by show (0 : Int) ≤ n; omega, (128 - n).toNat, by show (128 : Int) - n = _; omega, by omega, ?_, by unfold clr; simp⟩
    show clr 18230571291595767808 ((128 - n).toNat - 64) = 18230571291595767808
    rw [show (128 - n).toNat - 64 = 0 by omega]
    decide
theorem own_keepP {w w' : World} {base b : Nat} {e : TypeId} {size : Nat} {v : Value} {n : Nat} {xs : List Value} (h : w.ownsRow base e size v n xs) (hg : w.grownBy w' (some b)) (hb : b < base) : w'.ownsRow base e size v n xs :=
  rw_same h fun k hk => hg.block k (h.lt k hk).2 (fun e => by have := (h.lt k hk).1; injection e with e; omega)
theorem own_re {w w' : World} {base R : Nat} {e T : TypeId} {size : Nat} {v : Value} {n : Nat} {xs : List Value} {cs : Array Value} (h : w.ownsRow base e size v n xs) (hr : Re w w' R cs T) (hne : v.ownBlock ≠ some R) : w'.ownsRow base e size v n xs :=
  rw_same h fun k hk => hr.oth k (fun e => hne (by rw [← e]; exact hk))
theorem DS.part {w0 w : World} {b : Nat} {A : Option Addr} {cap : Nat} {l : List Int} {at_ m : Int} {bs : List DBk} {pf : Pf} {K L : Value} {P3 SB LB : Nat} (D : DS w0 w b A cap l at_ m bs) (hp : RpBase pf) (hm : at_ + m < 1099511626000)
    (hP : (P3, plA pf K L, 53) ∈ bs) (hS : (SB, #[.pointer (some ⟨b, 0, none⟩)], 23) ∈ bs) (hL : (LB, #[.int .i64 (lenA pf.six)], 3) ∈ bs) :
    Calls Tryz.prog 51 #[.pointer (some ⟨P3, 0, none⟩), .pointer (some ⟨SB, 0, none⟩), .pointer (some ⟨LB, 0, none⟩)] w fun e w' => (∃ p : Pf, e = .returned (.agg #[.bool p.six, .int .u64 p.hi, .int .u64 p.lo, .int .i64 p.bits]) ∧ okP p) ∧ DS w0 w' b A cap l at_ (m + 30) bs ∧ w.grownBy w' (some b) := by
  have hb := D.b0
  refine D.call (k := 30) fun y h1 h2 hs => (rpPart_any b A cap l y pf K L P3 SB LB w hs (by omega) hp (D.blk _ hP) (D.blk _ hS) (D.blk _ hL) (by have := D.own _ hP; simp only at this; omega) (by have := D.own _ hS; simp only at this; omega) (by have := D.own _ hL; simp only at this; omega)).mono ?_
  rintro e w' ⟨p, h1, h2, h3⟩
  exact ⟨⟨p, h1, h2⟩, h3⟩
theorem DS.rowT {w0 w w' : World} {b : Nat} {A : Option Addr} {cap : Nat} {l : List Int} {at_ m : Int} {bs : List DBk} (D : DS w0 w b A cap l at_ m bs) {base : Nat} {e : TypeId} {size : Nat} {v : Value} {n : Nat} {xs : List Value} (ho : w.ownsRow base e size v n xs) (hb : w0.heap.size ≤ base) (hT : ∀ p ∈ bs, p.2.2 ≠ e) (hg : w.grownBy w' v.ownBlock) : DS w0 w' b A cap l at_ m bs :=
  D.row hg fun j hj => ⟨Nat.le_trans hb (ho.lt j hj).1, fun p hp e => own_neT ho (D.blk p hp) (hT p hp) (by rw [e]; exact hj)⟩
theorem own_row2 {w w' : World} {b1 : Nat} {e1 : TypeId} {s1 : Nat} {v1 v2 : Value} {n1 : Nat} {xs : List Value} (h : w.ownsRow b1 e1 s1 v1 n1 xs) (hg : w.grownBy w' v2.ownBlock) (hne : ∀ g, v1.ownBlock = some g → v2.ownBlock ≠ some g) : w'.ownsRow b1 e1 s1 v1 n1 xs :=
  rw_same h fun k hk => hg.block k (h.lt k hk).2 (fun e => hne k hk e.symm)
theorem rp_key {k : List UInt8} (h : k ∈ rpKeys) : isKey ⟨k.toArray⟩ = true := by
  unfold rpKeys at h
  simp only [List.mem_cons, List.mem_nil_iff, or_false] at h
  rcases h with rfl | rfl | rfl | rfl <;> decide
theorem rp_len {k : List UInt8} (h : k ∈ rpKeys) : k.length ≤ 40 := by
  unfold rpKeys at h
  simp only [List.mem_cons, List.mem_nil_iff, or_false] at h
  rcases h with rfl | rfl | rfl | rfl <;> decide
/-- Where RightPool stands: its blocks, what is kept, the leases. -/
structure RpI (w : World) (b : Nat) (A : Option Addr) (cap : Nat) (l : List Int) (x : Int) (pf : Pf) (LB P3 : Nat) (m : Int) (K : List Pf) (L : List Le) (vK vL : Value) (wr : World) : Prop where
  d : DS w wr b A cap l x m [(LB, #[.int .i64 (lenA pf.six)], 3), (P3, plA pf vK vL, 53), (w.heap.size + 1, #[.bool false, .int .u64 0, .int .u64 0, .int .i64 0, .slice none 0 0, .slice none 0 0], 53), (w.heap.size, #[.pointer (some ⟨b, 0, none⟩)], 23)]
  k : pxOwn wr w.heap.size vK K
  l : leOwn wr w.heap.size vL L
  ins : ∀ p ∈ K, okP p ∧ insP p pf
structure RpJ (w : World) (b : Nat) (A : Option Addr) (cap : Nat) (l : List Int) (x : Int) (pf : Pf) (LB P3 KS : Nat) (m : Int) (K : List Pf) (L : List Le) (vK vL : Value) (wr : World) : Prop where
  d : DS w wr b A cap l x m [(KS, #[.string ⟨#[108, 97]⟩, .string ⟨#[108, 98]⟩, .string ⟨#[108, 99]⟩, .string ⟨#[108, 100]⟩], 9), (LB, #[.int .i64 (lenA pf.six)], 3), (P3, plA pf vK vL, 53), (w.heap.size + 1, #[.bool false, .int .u64 0, .int .u64 0, .int .i64 0, .slice none 0 0, .slice none 0 0], 53), (w.heap.size, #[.pointer (some ⟨b, 0, none⟩)], 23)]
  k : pxOwn wr w.heap.size vK K
  l : leOwn wr w.heap.size vL L
set_option maxRecDepth 100000 in
set_option maxHeartbeats 8000000 in
theorem rightPool_any (b : Nat) (A : Option Addr) (cap : Nat) (l : List Int) (x : Int) (w : World) (h : Str w b A cap l x) (hx : x < 1099511620000) :
    Calls Tryz.prog 19 #[.pointer (some ⟨b, 0, none⟩)] w (RightPoolIs w b A cap l x) := by
  obtain ⟨i0, hi0, hz0, hz1, hz2⟩ := info_parts px_info
  obtain ⟨j0, hj0, hy0, hy1, hy2⟩ := info_parts le_info
  have D0 := ((DS.start h).al #[.pointer (some ⟨b, 0, none⟩)] 23).al #[.bool false, .int .u64 0, .int .u64 0, .int .i64 0, .slice none 0 0, .slice none 0 0] 53
  simp only [Re_size] at D0
  have lx := h.low
  have hbw := h.lt
  clear h
  go_enter Tryz.func19, Tryz.ntmps19
  go_upto_region 1 with (fail)
  generalize World.alloc (World.alloc w _) _ = W at D0 ⊢
  have c0 : W.cell? ⟨w.heap.size, 0, none⟩ = some (.pointer (some ⟨b, 0, none⟩)) := D0.cell 1 0 rfl rfl
  go_wp2_with fail
  refine (DS.pk D0 (by omega) [24, 26, 28, 29] rfl rfl (by simp) (by simp) 4 4 rfl).mono ?_
  rintro e w1 ⟨⟨d, hd, rfl⟩, D1, -⟩
  clear c0 D0
  have l1 := D1.lt (k := 1) rfl
  have c0 : w1.cell? ⟨w.heap.size, 0, none⟩ = some (.pointer (some ⟨b, 0, none⟩)) := D1.cell 1 0 rfl rfl
  have D2 := D1.al (plA ⟨false, 0, 167772160, d⟩ (.slice none 0 0) (.slice none 0 0)) 53
  unfold plA at D2
  clear D1
  go_upto_region 2 with (fail)
  generalize World.alloc w1 _ = W2 at D2 ⊢
  generalize w1.heap.size = P3 at D2 l1 ⊢
  clear c0
  have c0 : W2.cell? ⟨w.heap.size, 0, none⟩ = some (.pointer (some ⟨b, 0, none⟩)) := D2.cell 2 0 rfl rfl
  go_wp2_with fail
  refine (D2.flip (by omega) 5 (by omega) (by omega)).mono ?_
  rintro e w3 ⟨⟨f, rfl⟩, D3, -⟩
  clear c0 D2 W2
  have c0 : w3.cell? ⟨w.heap.size, 0, none⟩ = some (.pointer (some ⟨b, 0, none⟩)) := D3.cell 2 0 rfl rfl
  go_upto_if 17 with (fail)
  go_cut [] from 18 to 23 (fun wc => ∃ pf : Pf, RpBase pf ∧ DS w wc b A cap l x 5 [(P3, plA pf (.slice none 0 0) (.slice none 0 0), 53), (w.heap.size + 1, #[.bool false, .int .u64 0, .int .u64 0, .int .i64 0, .slice none 0 0, .slice none 0 0], 53), (w.heap.size, #[.pointer (some ⟨b, 0, none⟩)], 23)])
  case first =>
    cases f
    · go_wp2_with fail
      go_meet
      exact ⟨⟨false, 0, 167772160, d⟩, .inl ⟨rfl, rfl, rfl, (by show (24 : Int) ≤ d; simp only [List.mem_cons, List.mem_nil_iff, or_false] at hd; omega), (by show d ≤ (29 : Int); simp only [List.mem_cons, List.mem_nil_iff, or_false] at hd; omega)⟩, D3.le (by omega)⟩
    · go_wp2_with fail
      refine (DS.pk D3 (by omega) [120, 124, 110, 64] rfl rfl (by simp) (by simp) 4 4 rfl).mono ?_
      rintro e w4 ⟨⟨d2, hd2, rfl⟩, D4, -⟩
      have hb := D4.blk _ (List.mem_of_getElem? (i := 0) rfl)
      obtain ⟨⟨y0, y1, y2, y3, y4, y5⟩, m0, m1, m2, m3, m4, m5⟩ := res6r hb
      have HBK := Lib.hid hb
      clear hb c0 D3
      go_wp2_with fail
      clear y0 y1 y2 y3 y4 y5 m0 m1 m2 m3 m4 m5
      generalize hW : World.setCell _ _ _ = W5
      have h1 := (Re.refl HBK.out).set 0 (.bool true)
      have h2 := h1.set 1 (.int .u64 18230571291595767808)
      have h3 := h2.set 2 (.int .u64 0)
      have h4 := h3.set 3 (.int .i64 d2)
      rw [hW] at h4
      clear hW h1 h2 h3
      go_meet
      exact ⟨⟨true, 18230571291595767808, 0, d2⟩, .inr ⟨rfl, rfl, rfl, (by show (64 : Int) ≤ d2; simp only [List.mem_cons, List.mem_nil_iff, or_false] at hd2; omega), (by show d2 ≤ (124 : Int); simp only [List.mem_cons, List.mem_nil_iff, or_false] at hd2; omega)⟩, (D4.re 0 rfl h4).le (by omega)⟩
  case rest =>
    obtain ⟨pf, hbase, D4⟩ := hcut
    have HB := Lib.hid hbase
    have HPF := Lib.hid hbase.ok
    clear D3 c0 hd hbase
    have D5 := D4.al #[.int .i64 32] 3
    have hb := D4.blk _ (List.mem_of_getElem? (i := 0) rfl)
    unfold plA at hb
    have l1 := lt_of_block hb
    obtain ⟨⟨y0, y1, y2, y3, y4, y5⟩, -⟩ := res6r hb
    clear hb
    go_upto_region 5 with (fail)
    generalize World.alloc wc _ = W5 at D5 ⊢
    generalize wc.heap.size = LB at D5 l1 ⊢
    clear y0 y1 y2 y3 y4 y5 D4
    have y0 : W5.cell? ⟨P3, 0, none⟩ = some (.bool pf.six) := D5.cell 1 0 rfl rfl
    have z0 : W5.cell? ⟨LB, 0, none⟩ = some (.int .i64 32) := D5.cell 0 0 rfl rfl
    have m0 : W5.frozen? ⟨LB, 0, none⟩ = false := D5.froz 0 0 rfl
    go_upto_if 27 with (fail)
    go_cut [] from 24 to 28 (fun wc => DS w wc b A cap l x 5 [(LB, #[.int .i64 (lenA pf.six)], 3), (P3, plA pf (.slice none 0 0) (.slice none 0 0), 53), (w.heap.size + 1, #[.bool false, .int .u64 0, .int .u64 0, .int .i64 0, .slice none 0 0, .slice none 0 0], 53), (w.heap.size, #[.pointer (some ⟨b, 0, none⟩)], 23)])
    case first =>
      rcases hsix : pf.six with _ | _
      · go_wp2_with fail
        go_meet
        rw [hsix]
        exact D5
      · go_wp2_with fail
        generalize hW : World.setCell _ _ _ = W6
        have D6 := D5.set 0 0 (.int .i64 128) rfl
        rw [hW] at D6
        go_meet
        rw [hsix]
        exact D6
    case rest =>
      have D6 := hcut
      clear hcut D5 y0 z0 m0
      go_upto_region 8 with (fail)
      have c0 := D6.cell 3 0 rfl rfl
      go_wp2_with fail
      refine (DS.pk D6 (by omega) [0, 0, 1, 2] rfl rfl (by simp) (by simp) 4 4 rfl).mono ?_
      rintro e w5 ⟨⟨d2, hd2, rfl⟩, D5, -⟩
      obtain ⟨n, rfl⟩ : ∃ n : Nat, d2 = n := ⟨d2.toNat, by simp only [List.mem_cons, List.mem_nil_iff, or_false] at hd2; omega⟩
      have hn2 : n ≤ 2 := by simp only [List.mem_cons, List.mem_nil_iff, or_false] at hd2; omega
      have HI : Hid (RpI w b A cap l x pf LB P3 6 [] [] (.slice none 0 0) (.slice none 0 0) w5) := Lib.hid ⟨D5, ⟨rfl, .inl ⟨rfl, rfl⟩⟩, ⟨rfl, .inl ⟨rfl, rfl⟩⟩, (by intro p hp; cases hp)⟩
      clear D6 D5 c0 hd2
      go_wp2_with fail
      go_loopw [6, 32] (fun _ v32 wr => ∃ (k : Nat) (K : List Pf) (vK : Value), k ≤ n ∧ v32 = .int .i64 k ∧ K.length ≤ k ∧ RpI w b A cap l x pf LB P3 (6 + 30 * (k : Int)) K [] vK (.slice none 0 0) wr) (fun _ v32 _ => n - (intOf v32).toNat)
      case atStart => exact ⟨0, [], _, Nat.zero_le _, rfl, Nat.le_refl _, HI.out⟩
      case round =>
        obtain ⟨k, K, vK, hk, rfl, hKk, ⟨D, hK, hL, hins⟩⟩ := hrel
        obtain ⟨AK, ck, rfl, -⟩ := px_own hK
        have HK := Lib.hid hK
        have HIN := Lib.hid hins
        clear hK hL hins HI
        by_cases hlt : k < n
        · have hd : decide ((k : Int) < (n : Int)) = true := by simp; omega
          go_wp2_with fail
          refine (DS.part D HB.out (by omega) (.tail _ (.head _)) (.tail _ (.tail _ (.tail _ (.head _)))) (.head _)).mono ?_
          rintro e w6 ⟨⟨p, rfl, hp⟩, D6, hg6⟩
          have HP := Lib.hid hp
          have D7 := D6.al #[.bool p.six, .int .u64 p.hi, .int .u64 p.lo, .int .i64 p.bits] 48
          have HK7 := Lib.hid (World.ownsRow.alloc (own_keepP HK.out hg6 hbw) (.cells #[.bool p.six, .int .u64 p.hi, .int .u64 p.lo, .int .i64 p.bits] 48 (0, 0)))
          clear D D6 hg6 hp
          go_upto_region 11 with (fail)
          generalize World.alloc w6 _ = W7 at D7 HK7 ⊢
          generalize w6.heap.size = B6 at D7 ⊢
          obtain ⟨⟨x0, x1, x2, x3⟩, -⟩ := res4 (D7.blk _ (List.mem_of_getElem? (i := 0) rfl))
          have hP3 := D7.blk _ (List.mem_of_getElem? (i := 2) rfl)
          unfold plA at hP3
          obtain ⟨⟨y0, y1, y2, y3, y4, y5⟩, -⟩ := res6r hP3
          clear hP3
          go_wp2_with fail
          refine (refWithin2 p pf W7 HP.out HPF.out).mono ?_
          rintro e W8 ⟨c, rfl, hc, hb8⟩
          have D8 := D7.bl hb8
          have HK8 := Lib.hid (VOp.kept _ _ _ _ _ HK7.out hb8)
          have HC := Lib.hid hc
          clear D7 hb8 hc x0 x1 x2 x3 y0 y1 y2 y3 y4 y5
          cases c
          · go_wp2_with fail
            go_roundw
            case rel => exact ⟨k + 1, K, _, by omega, by simp, by omega, D8.drop.le (by push_cast; omega), HK8.out, ⟨rfl, .inl ⟨rfl, rfl⟩⟩, HIN.out⟩
            case measure => simp [intOf]; omega
          · have D9 := (D8.drop).alo (.cells #[.bool p.six, .int .u64 p.hi, .int .u64 p.lo, .int .i64 p.bits] 48 (0, 0))
            have hbp := D8.blk _ (List.mem_of_getElem? (i := 0) rfl)
            obtain ⟨⟨x0, x1, x2, x3⟩, -⟩ := res4 hbp
            have hP3 := D8.blk _ (List.mem_of_getElem? (i := 2) rfl)
            unfold plA at hP3
            obtain ⟨⟨y0, y1, y2, y3, y4, y5⟩, -⟩ := res6r hP3
            have lp3 := lt_of_block hP3
            have HIP : Hid (insP p pf) := Lib.hid (HC.out.1 rfl)
            have HEA := Lib.hid (World.ownsRow.alloc HK8.out (.cells #[.bool p.six, .int .u64 p.hi, .int .u64 p.lo, .int .i64 p.bits] 48 (0, 0)))
            have hz8 := D8.size
            clear hbp hP3 D8 HC
            go_upto_region 12 with (fail)
            go_wp2_with (at_builtin; refine wpList_append_own _ rfl (.tmp 41) (.tmp 43) 26 rfl w.heap.size 48 i0 (.agg #[.bool false, .int .u64 0, .int .u64 0, .int .i64 0]) 4 32 Tryz.underlying26 hi0 hz0 hz1 hz2 rfl (by decide) _ _ _ rfl HEA.out ⟨W8.heap.size, 0, none⟩ 1 1 (pxC p) rfl rfl (cells_new W8 (pxC p) _) (pxC_one p) (by unfold maxLen; omega) (by omega) (by simp; omega) ?_)
            intro v5 w9 ho9 hg9 _
            have D10 := D9.rowT HEA.out (Nat.le_refl _) (by
              intro q hq
              simp only [List.mem_cons, List.mem_nil_iff, or_false] at hq
              rcases hq with rfl | rfl | rfl | rfl <;> (simp only; decide)) hg9
            have HO9 : Hid (pxOwn w9 w.heap.size v5 (K ++ [p])) := Lib.hid (own_asT ho9 (by simp) (by simp [rwC]))
            obtain ⟨A9, c9, rfl, -⟩ := px_own HO9.out
            clear ho9 hg9 D9 HEA HK8
            have y4' : w9.cell? ⟨P3, 4, none⟩ = some (.slice AK K.length ck) := D10.cell 1 4 rfl rfl
            have m4 : w9.frozen? ⟨P3, 4, none⟩ = false := D10.froz 1 4 rfl
            have hr := (Re.refl (D10.blk _ (List.mem_of_getElem? (i := 1) rfl))).set 4 (.slice A9 (K ++ [p]).length c9)
            have D11 : DS w (w9.setCell ⟨P3, 4, none⟩ (.slice A9 (K ++ [p]).length c9)) b A cap l x (6 + 30 * ((k + 1 : Nat) : Int)) [(LB, #[.int .i64 (lenA pf.six)], 3), (P3, plA pf (.slice A9 (K ++ [p]).length c9) (.slice none 0 0), 53), (w.heap.size + 1, #[.bool false, .int .u64 0, .int .u64 0, .int .i64 0, .slice none 0 0, .slice none 0 0], 53), (w.heap.size, #[.pointer (some ⟨b, 0, none⟩)], 23)] := (D10.set 1 4 _ rfl).le (by push_cast; omega)
            have HO10 := Lib.hid (own_re HO9.out hr (own_neT HO9.out (D10.blk _ (List.mem_of_getElem? (i := 1) rfl)) (by simp only; decide)))
            have HD11 := Lib.hid D11
            clear D11 hr D10 HO9
            have e1 : (K ++ [p]).length = K.length + 1 := by simp
            rw [e1] at HD11
            have E1 := Lib.hid e1
            clear e1
            go_wp2_with fail
            go_roundw
            case rel => exact ⟨k + 1, K ++ [p], _, by omega, by simp, by simp; omega, HD11.out, by rw [← E1.out]; exact HO10.out, ⟨rfl, .inl ⟨rfl, rfl⟩⟩, fun q hq => by
              rcases List.mem_append.1 hq with h | h
              · exact HIN.out q h
              · rw [List.mem_singleton.1 h]
                exact ⟨HP.out, HIP.out⟩⟩
            case measure => simp [intOf]; omega
        · have hkn : k = n := by omega
          subst hkn
          have D6 := (D.le (m' := 70) (by omega)).al #[.string ⟨#[108, 97]⟩, .string ⟨#[108, 98]⟩, .string ⟨#[108, 99]⟩, .string ⟨#[108, 100]⟩] 9
          have HK6 := Lib.hid (World.ownsRow.alloc HK.out (.cells #[.string ⟨#[108, 97]⟩, .string ⟨#[108, 98]⟩, .string ⟨#[108, 99]⟩, .string ⟨#[108, 100]⟩] 9 (0, 0)))
          have hwz := D.size
          have hKn : K.length ≤ 2 := by omega
          clear D HK
          go_wp2_with fail
          generalize World.alloc wr _ = V0 at D6 HK6 ⊢
          generalize wr.heap.size = KS at D6 hwz ⊢
          have HJ : Hid (RpJ w b A cap l x pf LB P3 KS 70 K [] (.slice AK K.length ck) (.slice none 0 0) V0) := Lib.hid ⟨D6, HK6.out, ⟨rfl, .inl ⟨rfl, rfl⟩⟩⟩
          have HOK : Hid (OkPl ⟨pf, K, []⟩) := Lib.hid ⟨HPF.out, HIN.out, (by intro z hz; cases hz), List.Pairwise.nil, List.Pairwise.nil, (by intro z hz; cases hz)⟩
          clear D6 HK6
          go_loopw [8, 9, 49] (fun _ _ v49 wq => ∃ (j : Nat) (L : List Le) (vL : Value), j ≤ 4 ∧ v49 = .int .i64 j ∧ L.length ≤ j ∧ OkPl ⟨pf, K, L⟩ ∧ (∀ y ∈ L, y.key ∈ rpKeys) ∧ RpJ w b A cap l x pf LB P3 KS (70 + 40 * (j : Int)) K L (.slice AK K.length ck) vL wq) (fun _ _ v49 _ => 4 - (intOf v49).toNat)
          case atStart => exact ⟨0, [], _, by omega, rfl, Nat.le_refl _, HOK.out, (by intro y hy; cases hy), HJ.out⟩
          case round =>
            obtain ⟨j, L, vL, hj, rfl, hLj, hok, hkey, ⟨D, hK, hL⟩⟩ := hrel
            obtain ⟨AL, cl, rfl, hLat, hL0⟩ := le_own hL
            have HOKj := Lib.hid hok
            have HKEY := Lib.hid hkey
            have HKj := Lib.hid hK
            have HLr := Lib.hid hL
            clear HOK HJ hok hkey hK hL
            have hb2 := D.blk _ (List.mem_of_getElem? (i := 2) rfl)
            unfold plA at hb2
            obtain ⟨⟨y0, y1, y2, y3, y4, y5⟩, -⟩ := res6r hb2
            have lp3 := lt_of_block hb2
            by_cases hlt : j < 4
            · have hd : decide ((j : Int) < (4 : Int)) = true := by simp; omega
              obtain ⟨key, hkm, hkc⟩ : ∃ key ∈ rpKeys, wr.cell? ⟨KS, j, none⟩ = some (.string ⟨key.toArray⟩) := by
                have hb := D.blk _ (.head _)
                have hj4 : j = 0 ∨ j = 1 ∨ j = 2 ∨ j = 3 := by omega
                unfold rpKeys
                rcases hj4 with rfl | rfl | rfl | rfl
                · exact ⟨[108, 97], by simp, cell_of hb 0⟩
                · exact ⟨[108, 98], by simp, cell_of hb 1⟩
                · exact ⟨[108, 99], by simp, cell_of hb 2⟩
                · exact ⟨[108, 100], by simp, cell_of hb 3⟩
              have HKM := Lib.hid hkm
              have D1 := D.al (plA pf (.slice AK K.length ck) (.slice AL L.length cl)) 53
              have hal := (Below.refl wr.heap.size wr).alloc (Nat.le_refl _) (.cells (plA pf (.slice AK K.length ck) (.slice AL L.length cl)) 53 (0, 0))
              have HK1 := Lib.hid (VOp.kept _ _ _ _ _ HKj.out hal)
              have HL1 := Lib.hid (VOl.kept _ _ _ _ _ HLr.out hal)
              have hLat1 := hLat.below hal
              unfold plA at D1 HK1 HL1 hLat1
              have hszq : Hid (∀ g, (Value.slice AL L.length cl).ownBlock = some g → g < wr.heap.size) := Lib.hid fun g hg => (HLr.out.lt g hg).2
              have hwq := D.size
              clear hb2 D hal HKj HLr hkm
              go_upto_region 18 with (fail)
              have hW1 : (wr.alloc (.cells #[.bool pf.six, .int .u64 pf.hi, .int .u64 pf.lo, .int .i64 pf.bits, .slice AK K.length ck, .slice AL L.length cl] 53 (0, 0))).heap.size = wr.heap.size + 1 := by simp
              generalize World.alloc wr _ = W1 at D1 HK1 HL1 hLat1 hW1 ⊢
              generalize wr.heap.size = XB at D1 hwq hszq hW1 lp3 ⊢
              have HW1 := Lib.hid hW1
              clear hW1 y0 y1 y2 y3 y4 y5 hkc
              have y5 : W1.cell? ⟨P3, 5, none⟩ = some (.slice AL L.length cl) := D1.cell 3 5 rfl rfl
              have hcn := le_clone AL cl L W1 hLat1 (fun h => (hL0 h).1) (by omega)
              clear hLat hLat1 hL0
              go_wp2_with fail
              refine hcn.mono ?_
              rintro e W2 ⟨v2, rfl, ho2, hb2⟩
              obtain ⟨A2, c2, rfl, -, -⟩ := le_own ho2
              have D2 := D1.bl hb2
              have HK2 := Lib.hid (VOp.kept _ _ _ _ _ HK1.out hb2)
              have HL2 := Lib.hid (VOl.kept _ _ _ _ _ HL1.out hb2)
              have HC2 := Lib.hid ho2
              have hw1 := D1.size
              have hz12 := hb2.size
              clear hcn ho2 hb2 D1 HK1 HL1 y5
              go_wp2_with fail
              refine (DS.part D2 HB.out (by omega) (.tail _ (.tail _ (.tail _ (.head _)))) (.tail _ (.tail _ (.tail _ (.tail _ (.tail _ (.head _)))))) (.tail _ (.tail _ (.head _)))).mono ?_
              rintro e W3 ⟨⟨p, rfl, hp⟩, D3, hg3⟩
              have HP := Lib.hid hp
              have hz23 := hg3.size
              have HK3 := Lib.hid (own_keepP HK2.out hg3 hbw)
              have HL3 := Lib.hid (own_keepP HL2.out hg3 hbw)
              have HC3 := Lib.hid (own_keepP HC2.out hg3 (by omega))
              clear hp hg3 D2 HK2 HL2 HC2
              have D4 := D3.alo (.cells #[.string ⟨key.toArray⟩, .bool p.six, .int .u64 p.hi, .int .u64 p.lo, .int .i64 p.bits] 67 (0, 0))
              have HK4 := Lib.hid (World.ownsRow.alloc HK3.out (.cells #[.string ⟨key.toArray⟩, .bool p.six, .int .u64 p.hi, .int .u64 p.lo, .int .i64 p.bits] 67 (0, 0)))
              have HL4 := Lib.hid (World.ownsRow.alloc HL3.out (.cells #[.string ⟨key.toArray⟩, .bool p.six, .int .u64 p.hi, .int .u64 p.lo, .int .i64 p.bits] 67 (0, 0)))
              have HEA := Lib.hid (World.ownsRow.alloc HC3.out (.cells #[.string ⟨key.toArray⟩, .bool p.six, .int .u64 p.hi, .int .u64 p.lo, .int .i64 p.bits] 67 (0, 0)))
              have hw3 := D3.size
              have hw13 : W1.heap.size ≤ W3.heap.size := by omega
              clear D3 HK3 HL3 HC3
              go_wp2_with (at_builtin; refine wpList_append_own _ rfl (.tmp 56) (.tmp 61) 51 rfl W1.heap.size 67 j0 (.agg #[.string ⟨#[]⟩, .bool false, .int .u64 0, .int .u64 0, .int .i64 0]) 5 48 Tryz.underlying51 hj0 hy0 hy1 hy2 rfl (by decide) _ _ _ rfl HEA.out ⟨W3.heap.size, 0, none⟩ 1 1 (leC ⟨key, p⟩) rfl rfl (cells_new W3 (leC ⟨key, p⟩) _) (leC_one ⟨key, p⟩) (by unfold maxLen; omega) (by omega) (by simp; omega) ?_)
              intro v5 W5 ho5 hg5 _
              have HO5 : Hid (leOwn W5 W1.heap.size v5 (L ++ [⟨key, p⟩])) := Lib.hid (own_asT ho5 (by simp) (by simp [rwC]))
              obtain ⟨A5, c5, rfl, -, -⟩ := le_own HO5.out
              have D5 := D4.rowT HEA.out (by omega) (by
                intro q hq
                simp only [List.mem_cons, List.mem_nil_iff, or_false] at hq
                rcases hq with rfl | rfl | rfl | rfl | rfl | rfl <;> (simp only; decide)) hg5
              have HK5 := Lib.hid (own_row2 HK4.out hg5 (own_two HK4.out HEA.out (by decide)))
              have HL5 := Lib.hid (own_row2 HL4.out hg5 (fun g hg1 hg2 => by have h1 := hszq.out g hg1; have h2 := (HEA.out.lt g hg2).1; have := HW1.out; omega))
              have e1 : (L ++ [(⟨key, p⟩ : Le)]).length = L.length + 1 := by simp
              have y5 : W5.cell? ⟨XB, 5, none⟩ = some (.slice AL L.length cl) := D5.cell 0 5 rfl rfl
              have m5 : W5.frozen? ⟨XB, 5, none⟩ = false := D5.froz 0 5 rfl
              have hxb := D5.blk _ (.head _)
              have hr := (Re.refl hxb).set 5 (.slice A5 (L ++ [(⟨key, p⟩ : Le)]).length c5)
              have HK6 := own_re HK5.out hr (own_neT HK5.out hxb (by simp only; decide))
              have HL6 := own_re HL5.out hr (own_neT HL5.out hxb (by simp only; decide))
              have HO6 := own_re HO5.out hr (own_neT HO5.out hxb (by simp only; decide))
              have D6 := D5.re 0 rfl hr
              clear ho5 hg5 hr hxb D4 D5 HK4 HL4 HEA HK5 HL5 HO5
              rw [e1] at D6 HK6 HL6
              have HE1 := Lib.hid e1
              have HO6' : leOwn (W5.setCell ⟨XB, 5, none⟩ (.slice A5 (L.length + 1) c5)) W1.heap.size (.slice A5 (L ++ [(⟨key, p⟩ : Le)]).length c5) (L ++ [⟨key, p⟩]) := by rw [← e1]; exact HO6
              clear e1 HO6
              go_upto_region 19 with (fail)
              generalize World.setCell _ _ _ = W6 at D6 HK6 HL6 HO6' ⊢
              have HK6h := Lib.hid HK6
              have HL6h := Lib.hid HL6
              have HO6h := Lib.hid HO6'
              have D6' : DS w W6 b A cap l x (70 + 40 * (j : Int) + 30) [(XB, plA pf (.slice AK K.length ck) (.slice A5 (L.length + 1) c5), 53), (KS, #[.string ⟨#[108, 97]⟩, .string ⟨#[108, 98]⟩, .string ⟨#[108, 99]⟩, .string ⟨#[108, 100]⟩], 9), (LB, #[.int .i64 (lenA pf.six)], 3), (P3, plA pf (.slice AK K.length ck) (.slice AL L.length cl), 53), (w.heap.size + 1, #[.bool false, .int .u64 0, .int .u64 0, .int .i64 0, .slice none 0 0, .slice none 0 0], 53), (w.heap.size, #[.pointer (some ⟨b, 0, none⟩)], 23)] := D6
              clear y5 m5 D6 HK6 HL6 HO6'
              have c0 : W6.cell? ⟨w.heap.size, 0, none⟩ = some (.pointer (some ⟨b, 0, none⟩)) := D6'.cell 5 0 rfl rfl
              go_wp2_with fail
              refine (D6'.flip (by omega) 3 (by omega) (by omega)).mono ?_
              rintro e W7 ⟨⟨f3, rfl⟩, D7, hg7⟩
              have HK7 := Lib.hid (own_keepP HK6h.out hg7 hbw)
              have HL7 := Lib.hid (own_keepP HL6h.out hg7 hbw)
              have HO7 := Lib.hid (own_base (own_keepP HO6h.out hg7 (by omega)) (show w.heap.size ≤ W1.heap.size by omega))
              clear c0 hg7 D6' HK6h HL6h HO6h
              cases f3
              · have hxb := D7.blk _ (.head _)
                unfold plA at hxb
                obtain ⟨⟨x0, x1, x2, x3, x4, x5⟩, -⟩ := res6r hxb
                have lxb := lt_of_block hxb
                clear hxb
                have hpf := poolFault_any ⟨pf, K, L ++ [⟨key, p⟩]⟩ AK A5 ck c5 W7 (rw_at' pxC_len HK7.out) (rw_at' leC_len HO7.out) HPF.out HIN.out (fun y hy => by
                  rcases List.mem_append.1 hy with h | h
                  · exact ⟨rp_key (HKEY.out y h), rp_len (HKEY.out y h), (HOKj.out.ls y h).1⟩
                  · rw [List.mem_singleton.1 h]
                    exact ⟨rp_key HKM.out, rp_len HKM.out, HP.out⟩) (by show K.length ≤ 200; omega) (by show (L ++ [(⟨key, p⟩ : Le)]).length ≤ 200; rw [HE1.out]; omega) (own_cap HO7.out)
                unfold plV at hpf
                simp only [HE1.out] at hpf
                go_wp2_with fail
                refine hpf.mono ?_
                rintro e W8 ⟨c, rfl, hc, hb8⟩
                have HC := Lib.hid hc
                have D8 := D7.bl hb8
                have HK8 := Lib.hid (VOp.kept _ _ _ _ _ HK7.out hb8)
                have HL8 := Lib.hid (VOl.kept _ _ _ _ _ HL7.out hb8)
                have HO8 := Lib.hid (VOl.kept _ _ _ _ _ HO7.out hb8)
                clear hpf hc hb8 D7 HK7 HL7 HO7 x0 x1 x2 x3 x4 x5
                by_cases hc0 : c = 0
                · subst hc0
                  have hxb := D8.blk _ (.head _)
                  have hp3 := D8.blk _ (List.mem_of_getElem? (i := 3) rfl)
                  unfold plA at hxb hp3
                  obtain ⟨⟨x0, x1, x2, x3, x4, x5⟩, -⟩ := res6r hxb
                  obtain ⟨⟨y0, y1, y2, y3, y4, y5⟩, m0, m1, m2, m3, m4, m5⟩ := res6r hp3
                  have HP3 := Lib.hid hp3
                  have HOK2 := Lib.hid (HC.out rfl)
                  clear hxb hp3
                  go_wp2_with fail
                  clear x0 x1 x2 x3 x4 x5 y0 y1 y2 y3 y4 y5 m0 m1 m2 m3 m4 m5
                  generalize hW : World.setCell _ _ _ = W9
                  have hr := re6q HP3.out hW
                  have D9 : DS w W9 b A cap l x (70 + 40 * (((j + 1 : Nat) : Int))) [(KS, #[.string ⟨#[108, 97]⟩, .string ⟨#[108, 98]⟩, .string ⟨#[108, 99]⟩, .string ⟨#[108, 100]⟩], 9), (LB, #[.int .i64 (lenA pf.six)], 3), (P3, plA pf (.slice AK K.length ck) (.slice A5 (L.length + 1) c5), 53), (w.heap.size + 1, #[.bool false, .int .u64 0, .int .u64 0, .int .i64 0, .slice none 0 0, .slice none 0 0], 53), (w.heap.size, #[.pointer (some ⟨b, 0, none⟩)], 23)] := ((D8.re 3 rfl hr).drop).le (by push_cast; omega)
                  have HK9 := own_re HK8.out hr (own_neT HK8.out HP3.out (by decide))
                  have HO9 := own_re HO8.out hr (own_neT HO8.out HP3.out (by decide))
                  clear hW hr D8 HP3 HK8 HL8 HO8
                  go_roundw
                  case rel => exact ⟨j + 1, L ++ [⟨key, p⟩], _, by omega, by simp, by rw [HE1.out]; omega, HOK2.out, (fun y hy => by
                    rcases List.mem_append.1 hy with h | h
                    · exact HKEY.out y h
                    · rw [List.mem_singleton.1 h]
                      exact HKM.out), D9, HK9, by rw [← HE1.out]; exact HO9⟩
                  case measure => simp [intOf]; omega
                · have hcb : (c == 0) = false := by simpa using hc0
                  go_wp2_with fail
                  go_roundw
                  case rel => exact ⟨j + 1, L, _, by omega, by simp, by omega, HOKj.out, HKEY.out, D8.drop.le (by push_cast; omega), HK8.out, HL8.out⟩
                  case measure => simp [intOf]; omega
              · go_wp2_with fail
                go_roundw
                case rel => exact ⟨j + 1, L, _, by omega, by simp, by omega, HOKj.out, HKEY.out, D7.drop.le (by push_cast; omega), HK7.out, HL7.out⟩
                case measure => simp [intOf]; omega
            · have hj4 : j = 4 := by omega
              subst hj4
              have hrb := D.blk _ (List.mem_of_getElem? (i := 3) rfl)
              obtain ⟨⟨r0, r1, r2, r3, r4, r5⟩, m0, m1, m2, m3, m4, m5⟩ := res6r hrb
              have HRB := Lib.hid hrb
              obtain ⟨AK', ck', eK, hKa, hK0⟩ := px_own HKj.out
              injection eK with eK1 eK2 eK3
              subst eK1 eK3
              clear hrb hb2
              go_wp2_with fail
              clear y0 y1 y2 y3 y4 y5 r0 r1 r2 r3 r4 r5 m0 m1 m2 m3 m4 m5
              generalize hW : World.setCell _ _ _ = W9
              have hr := re6q HRB.out hW
              have HK9 := own_re HKj.out hr (own_neT HKj.out HRB.out (by decide))
              have HL9 := own_re HLr.out hr (own_neT HLr.out HRB.out (by decide))
              have D9 := D.re 3 rfl hr
              have hfin : RightPoolIs w b A cap l x (.returned (.agg #[.bool pf.six, .int .u64 pf.hi, .int .u64 pf.lo, .int .i64 pf.bits, .slice AK K.length ck, .slice AL L.length cl])) W9 := ⟨⟨pf, K, L⟩, AK, AL, ck, cl, rfl, ⟨rw_at' pxC_len HK9, fun h => (hK0 h).1, rw_at' leC_len HL9, fun h => (hL0 h).1, own_cap HL9⟩, ⟨HOKj.out, fun y hy => ⟨rp_key (HKEY.out y hy), rp_len (HKEY.out y hy)⟩, hKn, by show L.length ≤ 5; omega⟩, hLj, HKEY.out, HB.out, ⟨fun a ha => (HK9.lt a.block (by rw [ha]; rfl)).1, fun a ha => (HL9.lt a.block (by rw [ha]; rfl)).1⟩, (D9.le (m' := 400) (by omega)).to⟩
              obtain ⟨⟨z0, z1, z2, z3, z4, z5⟩, -⟩ := res6r hr.blk
              refine bodyPost_ret (v := .agg #[.bool pf.six, .int .u64 pf.hi, .int .u64 pf.lo, .int .i64 pf.bits, .slice AK K.length ck, .slice AL L.length cl]) (by simp [results, Tryz.results19, go_sem, z0, z1, z2, z3, z4, z5]) rfl hfin
end Go.Proofs.YtajifionclpphaaGreatDoor
