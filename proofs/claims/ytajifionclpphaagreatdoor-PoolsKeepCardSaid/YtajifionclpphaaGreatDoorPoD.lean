/- The reference's test of a pool: an answer 0 says that the pool is right. -/
import Derived.Test.YtajifionclpphaaGreatDoorPoC
import Derived.Test.YtajifionclpphaaGreatDoorLeR
import Derived.Test.YtajifionclpphaaGreatDoorPxR
import Derived.Sort.Walk0
namespace Go.Proofs.YtajifionclpphaaGreatDoor
open Go.RowKit Go.Hw
/-- A fault's answer: 0 says something. -/
def FaultIs (w : World) (p : Prop) (e : Ending) (w' : World) : Prop := ∃ c : Int, e = .returned (.int .i64 c) ∧ (c = 0 → p) ∧ Below w.heap.size w w'
/-- A pool as a value. -/
def plV (p : Pf) (K L : Value) : Value := .agg #[.bool p.six, .int .u64 p.hi, .int .u64 p.lo, .int .i64 p.bits, K, L]
def plBox (p : Pf) (K L : Value) : Obj := .cells #[.bool p.six, .int .u64 p.hi, .int .u64 p.lo, .int .i64 p.bits, K, L] 53 (0, 0)
theorem key_lt {a b : List UInt8} (h1 : ¬ a < b) (h2 : a ≠ b) : b < a := by
  rcases List.le_iff_lt_or_eq.1 (List.not_lt.1 h1) with h | h
  · exact h
  · exact absurd h.symm h2
/-- What the first leases are known to be. -/
structure PfI2 (p : Pf) (L : List Le) (k : Nat) (last : List UInt8) : Prop where
  ins : ∀ x ∈ L.take k, insP x.pf p ∧ x.pf.bits ≤ p.bits + 20
  ord : (L.take k).Pairwise (fun x y => x.key < y.key)
  low : ∀ x ∈ L.take k, ∀ y, last < y → x.key < y
theorem PfI2.start (p : Pf) (L : List Le) : PfI2 p L 0 [] := ⟨(by intro x hx; cases hx), List.Pairwise.nil, (by intro x hx; cases hx)⟩
theorem PfI2.step {p : Pf} {L : List Le} {k : Nat} {last : List UInt8} (h : PfI2 p L k last) (hk : k < L.length) (h1 : insP (L.getD k noLe).pf p) (h2 : (L.getD k noLe).pf.bits ≤ p.bits + 20) (h3 : last < (L.getD k noLe).key) : PfI2 p L (k + 1) (L.getD k noLe).key := by
  have e : L.take (k + 1) = L.take k ++ [L.getD k noLe] := by rw [List.take_add_one, List.getElem?_eq_getElem hk, List.getD_eq_getElem?_getD, List.getElem?_eq_getElem hk]; rfl
  refine ⟨fun x hx => ?_, ?_, fun x hx y hy => ?_⟩
  · rw [e] at hx
    rcases List.mem_append.1 hx with hx | hx
    · exact h.ins x hx
    · rw [List.mem_singleton.1 hx]; exact ⟨h1, h2⟩
  · rw [e]
    refine List.pairwise_append.2 ⟨h.ord, by simp, fun a ha b hb => ?_⟩
    rw [List.mem_singleton.1 hb]
    exact h.low a ha _ h3
  · rw [e] at hx
    rcases List.mem_append.1 hx with hx | hx
    · exact h.low x hx y (List.lt_trans h3 hy)
    · rw [List.mem_singleton.1 hx]; exact hy
open Classical in
/-- Do two prefixes have a number in common? -/
noncomputable def touchB (p q : Pf) : Bool := decide (¬ offP p q)
theorem touchB_iff (p q : Pf) : touchB p q = true ↔ ¬ offP p q := by
  classical
  exact decide_eq_true_iff
theorem entersP1 : ∀ args w, (callFunc 110 args).run Tryz.prog w = .ok (.enter 110 args) w := enters_of Tryz.func110 (by kernel_rfl) rfl
theorem entersP2 : ∀ args w, (callFunc 112 args).run Tryz.prog w = .ok (.enter 112 args) w := enters_of Tryz.func112 (by kernel_rfl) rfl
set_option maxRecDepth 100000 in
set_option maxHeartbeats 1000000 in
theorem poolF1 (x : Le) (k : Pf) (nb : Nat) (w : World) (hb : w.heap[nb]? = some (.cells #[.string ⟨x.key.toArray⟩, .bool x.pf.six, .int .u64 x.pf.hi, .int .u64 x.pf.lo, .int .i64 x.pf.bits] 67 (0, 0))) (hk : okP k) (hx : okP x.pf) :
    Calls Tryz.prog 110 #[.agg #[.bool k.six, .int .u64 k.hi, .int .u64 k.lo, .int .i64 k.bits], .pointer (some ⟨nb, 0, none⟩)] w fun e w' => e = .returned (.bool (touchB k x.pf)) ∧ Below w.heap.size w w' := by
  have HK := Lib.hid hk
  have HX := Lib.hid hx
  have HB : Hid (Below w.heap.size w (w.alloc (.cells #[.bool k.six, .int .u64 k.hi, .int .u64 k.lo, .int .i64 k.bits] 48 (0, 0)))) := Lib.hid ((Below.refl _ _).alloc (Nat.le_refl _) _)
  have b1 := heap_alloc_new w (.cells #[.bool k.six, .int .u64 k.hi, .int .u64 k.lo, .int .i64 k.bits] 48 (0, 0))
  have b2 := (Below.heap_alloc w (.cells #[.bool k.six, .int .u64 k.hi, .int .u64 k.lo, .int .i64 k.bits] 48 (0, 0)) _ (lt_of_block hb)).trans hb
  obtain ⟨⟨y0, y1, y2, y3, y4⟩, -⟩ := res5 b2
  obtain ⟨⟨k0, k1, k2, k3⟩, -⟩ := res4 b1
  clear hk hx hb b1 b2
  go_enter Tryz.func110, Tryz.ntmps110
  go_upto_region 1 with (fail)
  generalize World.alloc w _ = W at y0 y1 y2 y3 y4 k0 k1 k2 k3 HB ⊢
  go_wp2_with fail
  refine (refTouch2 k x.pf W HK.out HX.out).mono ?_
  rintro e w1 ⟨b, rfl, h1, hb1⟩
  have HE : Hid (b = touchB k x.pf) := Lib.hid (bool_same h1 (touchB_iff k x.pf))
  have HB1 := Lib.hid (HB.out.trans (hb1.mono HB.out.size))
  clear h1 hb1
  go_wp2_with fail
  go_ret
  exact ⟨by rw [← HE.out]; rfl, HB1.out⟩
set_option maxRecDepth 100000 in
set_option maxHeartbeats 1000000 in
theorem poolF2 (x o : Le) (nb : Nat) (w : World) (hb : w.heap[nb]? = some (.cells #[.string ⟨x.key.toArray⟩, .bool x.pf.six, .int .u64 x.pf.hi, .int .u64 x.pf.lo, .int .i64 x.pf.bits] 67 (0, 0))) (hk : okP o.pf) (hx : okP x.pf) :
    Calls Tryz.prog 112 #[.agg #[.string ⟨o.key.toArray⟩, .bool o.pf.six, .int .u64 o.pf.hi, .int .u64 o.pf.lo, .int .i64 o.pf.bits], .pointer (some ⟨nb, 0, none⟩)] w fun e w' => e = .returned (.bool (touchB o.pf x.pf)) ∧ Below w.heap.size w w' := by
  have HK := Lib.hid hk
  have HX := Lib.hid hx
  have HB : Hid (Below w.heap.size w (w.alloc (.cells #[.string ⟨o.key.toArray⟩, .bool o.pf.six, .int .u64 o.pf.hi, .int .u64 o.pf.lo, .int .i64 o.pf.bits] 67 (0, 0)))) := Lib.hid ((Below.refl _ _).alloc (Nat.le_refl _) _)
  have b1 := heap_alloc_new w (.cells #[.string ⟨o.key.toArray⟩, .bool o.pf.six, .int .u64 o.pf.hi, .int .u64 o.pf.lo, .int .i64 o.pf.bits] 67 (0, 0))
  have b2 := (Below.heap_alloc w (.cells #[.string ⟨o.key.toArray⟩, .bool o.pf.six, .int .u64 o.pf.hi, .int .u64 o.pf.lo, .int .i64 o.pf.bits] 67 (0, 0)) _ (lt_of_block hb)).trans hb
  obtain ⟨⟨y0, y1, y2, y3, y4⟩, -⟩ := res5 b2
  obtain ⟨⟨k0, k1, k2, k3, k4⟩, -⟩ := res5 b1
  clear hk hx hb b1 b2
  go_enter Tryz.func112, Tryz.ntmps112
  go_upto_region 1 with (fail)
  generalize World.alloc w _ = W at y0 y1 y2 y3 y4 k0 k1 k2 k3 k4 HB ⊢
  go_wp2_with fail
  refine (refTouch2 o.pf x.pf W HK.out HX.out).mono ?_
  rintro e w1 ⟨b, rfl, h1, hb1⟩
  have HE : Hid (b = touchB o.pf x.pf) := Lib.hid (bool_same h1 (touchB_iff o.pf x.pf))
  have HB1 := Lib.hid (HB.out.trans (hb1.mono HB.out.size))
  clear h1 hb1
  go_wp2_with fail
  go_ret
  exact ⟨by rw [← HE.out]; rfl, HB1.out⟩
theorem RwAt.first {α : Type} {c : α → List Value} {n : Nat} {d : α} {w : World} {A : Option Addr} {L : List α} (h : RwAt c n d w A L) (k : Nat) : RwAt c n d w A (L.take k) := fun i hi => by
  have hi' : i < L.length ∧ i < k := by rw [List.length_take] at hi; omega
  obtain ⟨g, off, h1, h2, h3⟩ := h i hi'.1
  have e : (L.take k).getD i d = L.getD i d := by
    rw [List.getD_eq_getElem?_getD, List.getD_eq_getElem?_getD, List.getElem?_take, if_pos hi'.2]
  exact ⟨g, off, h1, h2, by rw [e]; exact h3⟩
/-- What the first leases are known to lie apart from. -/
structure PfI3 (K : List Pf) (L : List Le) (k : Nat) : Prop where
  off : (L.take k).Pairwise (fun x y => offP x.pf y.pf)
  offK : ∀ x ∈ L.take k, ∀ y ∈ K, offP x.pf y
theorem PfI3.start (K : List Pf) (L : List Le) : PfI3 K L 0 := ⟨List.Pairwise.nil, (by intro x hx; cases hx)⟩
theorem PfI3.step {K : List Pf} {L : List Le} {k : Nat} (h : PfI3 K L k) (hk : k < L.length) (h1 : K.any (fun y => touchB y (L.getD k noLe).pf) = false) (h2 : (L.take k).any (fun y => touchB y.pf (L.getD k noLe).pf) = false) : PfI3 K L (k + 1) := by
  have e : L.take (k + 1) = L.take k ++ [L.getD k noLe] := by rw [List.take_add_one, List.getElem?_eq_getElem hk, List.getD_eq_getElem?_getD, List.getElem?_eq_getElem hk]; rfl
  have no : ∀ p q : Pf, touchB p q = false → offP p q := fun p q hh => Classical.byContradiction fun hn => by rw [(touchB_iff p q).2 hn] at hh; cases hh
  rw [List.any_eq_false] at h1 h2
  refine ⟨?_, fun x hx y hy => ?_⟩
  · rw [e]
    refine List.pairwise_append.2 ⟨h.off, by simp, fun a ha b hb => ?_⟩
    rw [List.mem_singleton.1 hb]
    exact no _ _ (by simpa using h2 a ha)
  · rw [e] at hx
    rcases List.mem_append.1 hx with hx | hx
    · exact h.offK x hx y hy
    · rw [List.mem_singleton.1 hx]
      exact (no _ _ (by simpa using h1 y hy)).symm
set_option maxRecDepth 100000 in
set_option maxHeartbeats 8000000 in
theorem poolFault_any (P : Pl) (AK AL : Option Addr) (ck cl : Nat) (w : World) (hK : pxAt w AK P.kept) (hL : leAt w AL P.ls) (hp : okP P.pf) (hk : ∀ k ∈ P.kept, okP k ∧ insP k P.pf) (hl : ∀ x ∈ P.ls, isKey ⟨x.key.toArray⟩ = true ∧ x.key.length ≤ 40 ∧ okP x.pf) (n1 : P.kept.length ≤ 200) (n2 : P.ls.length ≤ 200) (hcl : P.ls.length ≤ cl) :
    Calls Tryz.prog 55 #[plV P.pf (.slice AK P.kept.length ck) (.slice AL P.ls.length cl)] w (FaultIs w (OkPl P)) := by
  have HK := Lib.hid hK
  have HL := Lib.hid hL
  have HP := Lib.hid hp
  have HKO := Lib.hid hk
  have HLO := Lib.hid hl
  obtain ⟨K, L, hKe, hLe⟩ : ∃ K L, K = P.kept ∧ L = P.ls := ⟨_, _, rfl, rfl⟩
  obtain ⟨p, hpe⟩ : ∃ p, p = P.pf := ⟨_, rfl⟩
  have HE := Lib.hid (And.intro hpe (And.intro hKe hLe))
  rw [← hKe] at n1 HK HKO ⊢
  rw [← hLe] at n2 hcl HL HLO ⊢
  rw [← hpe] at HP HKO ⊢
  have b0 := heap_alloc_new w (plBox p (.slice AK K.length ck) (.slice AL L.length cl))
  have hB : Below w.heap.size w (w.alloc (plBox p (.slice AK K.length ck) (.slice AL L.length cl))) := (Below.refl _ _).alloc (Nat.le_refl _) _
  have HB := Lib.hid hB
  have g1 : decide ((200 : Int) < (K.length : Int)) = false := by simp; omega
  have g2 : decide ((200 : Int) < (L.length : Int)) = false := by simp; omega
  have hpb : 0 ≤ p.bits ∧ p.bits ≤ 128 := by
    obtain ⟨-, h0, m, hm, hm2, -⟩ := HP.out
    have : lenA p.six ≤ 128 := by unfold lenA; split <;> omega
    omega
  clear hK hL hp hk hl hKe hLe hpe hB
  unfold plV
  go_enter Tryz.func55, Tryz.ntmps55
  go_upto_region 1 with (fail)
  unfold plBox at b0
  have HB' : Hid (Below w.heap.size w (w.alloc (.cells #[.bool p.six, .int .u64 p.hi, .int .u64 p.lo, .int .i64 p.bits, .slice AK K.length ck, .slice AL L.length cl] 53 (0, 0)))) := Lib.hid HB.out
  generalize World.alloc w _ = W at b0 HB' ⊢
  have BX := Lib.hid b0
  obtain ⟨⟨x0, x1, x2, x3, x4, x5⟩, -⟩ := res6r b0
  clear b0 HB
  go_wp2_with fail
  refine (refPrefixFault0 p W HP.out).mono ?_
  rintro e W1 ⟨rfl, hb1⟩
  have BX1 := Lib.hid ((hb1.block _ (lt_of_block BX.out)).trans BX.out)
  have HB1 := Lib.hid (HB'.out.trans (hb1.mono HB'.out.size))
  clear hb1 x0 x1 x2 x3 x4 x5 BX HB'
  obtain ⟨⟨x0, x1, x2, x3, x4, x5⟩, -⟩ := res6r BX1.out
  go_wp2_with fail
  go_loopw [5, 6, 26] (fun _ _ v26 wr => ∃ k : Nat, k ≤ K.length ∧ v26 = .int .i64 k ∧ Below W1.heap.size W1 wr) (fun _ _ v26 _ => K.length - (intOf v26).toNat)
  case atStart => exact ⟨0, Nat.zero_le _, rfl, Below.refl _ _⟩
  case round =>
    obtain ⟨k, hk, rfl, hb⟩ := hrel
    have HBW := Lib.hid hb
    have BXr := Lib.hid ((hb.block _ (lt_of_block BX1.out)).trans BX1.out)
    by_cases hlt : k < K.length
    · obtain ⟨g5, off, hA, hgB, hcc⟩ := ((HK.out.below HB1.out).below hb) k hlt
      obtain ⟨c0, c1, c2, c3⟩ := px_cells hcc
      have HX := Lib.hid (HKO.out (K.getD k noPf) (rw_mem hlt))
      generalize K.getD k noPf = x at *
      have hd : decide ((k : Int) < (K.length : Int)) = true := by simp; omega
      have HBB := Lib.hid (hb.alloc hb.size (.cells #[.bool x.six, .int .u64 x.hi, .int .u64 x.lo, .int .i64 x.bits] 48 (0, 0)))
      have BN := Lib.hid (heap_alloc_new wr (.cells #[.bool x.six, .int .u64 x.hi, .int .u64 x.lo, .int .i64 x.bits] 48 (0, 0)))
      have BY := Lib.hid ((Below.heap_alloc wr (.cells #[.bool x.six, .int .u64 x.hi, .int .u64 x.lo, .int .i64 x.bits] 48 (0, 0)) _ (lt_of_block BXr.out)).trans BXr.out)
      subst hA
      clear hcc hb x0 x1 x2 x3 x4 x5
      go_wp2_with fail
      refine (refPrefixFault0 x _ HX.out.1).mono ?_
      rintro e w3 ⟨rfl, hb3⟩
      have BN3 := (hb3.block _ (lt_of_block BN.out)).trans BN.out
      have BY3 := (hb3.block _ (lt_of_block BY.out)).trans BY.out
      have HB3 := Lib.hid (HBB.out.trans (hb3.mono HBB.out.size))
      obtain ⟨⟨y0, y1, y2, y3⟩, -⟩ := res4 BN3
      obtain ⟨⟨x0, x1, x2, x3, x4, x5⟩, -⟩ := res6r BY3
      clear hb3 BN3 BY3 BN BY HBB
      go_wp2_with fail
      refine (refWithin2 x p w3 HX.out.1 HP.out).mono ?_
      rintro e w4 ⟨b, rfl, h4, hb4⟩
      obtain rfl : b = true := h4.2 HX.out.2
      have HB4 := Lib.hid (HB3.out.trans (hb4.mono HB3.out.size))
      clear h4 hb4
      go_wp2_with fail
      exact ⟨⟨k + 1, by omega, by simp, HB4.out⟩, by simp [intOf]; omega⟩
    · have hkl : k = K.length := by omega
      subst hkl
      clear hb x0 x1 x2 x3 x4 x5
      obtain ⟨⟨x0, x1, x2, x3, x4, x5⟩, -⟩ := res6r BXr.out
      go_wp2_with fail
      have HBE := Lib.hid (HB1.out.trans (HBW.out.mono HB1.out.size))
      have HLr := Lib.hid (HL.out.below HBE.out)
      obtain ⟨W2, hW2⟩ : ∃ W2, W2 = wr := ⟨_, rfl⟩
      rw [← hW2] at BXr HBE HLr ⊢
      clear hW2 HBW x0 x1 x2 x3 x4 x5
      go_loopw [7, 9, 10, 48] (fun v7 _ _ v48 wr => ∃ (k : Nat) (last : List UInt8), k ≤ L.length ∧ v48 = .int .i64 k ∧ v7 = .string ⟨last.toArray⟩ ∧ PfI2 p L k last ∧ Below W2.heap.size W2 wr) (fun _ _ _ v48 _ => L.length - (intOf v48).toNat)
      case atStart => exact ⟨0, [], Nat.zero_le _, rfl, rfl, PfI2.start p L, Below.refl _ _⟩
      case round =>
        obtain ⟨k, last, hk, rfl, rfl, hI, hb⟩ := hrel
        have HBW := Lib.hid hb
        have HI := Lib.hid hI
        have BXr2 := Lib.hid ((hb.block _ (lt_of_block BXr.out)).trans BXr.out)
        by_cases hlt : k < L.length
        · obtain ⟨g5, off, hA, hgB, hcc⟩ := (HLr.out.below hb) k hlt
          obtain ⟨c0, c1, c2, c3, c4⟩ := le_cells hcc
          have HX := Lib.hid (HLO.out (L.getD k noLe) (rw_mem hlt))
          have HST := Lib.hid (fun (a : insP (L.getD k noLe).pf p) (b : (L.getD k noLe).pf.bits ≤ p.bits + 20) (c : last < (L.getD k noLe).key) => HI.out.step hlt a b c)
          generalize L.getD k noLe = x at *
          have hd : decide ((k : Int) < (L.length : Int)) = true := by simp; omega
          have HBB := Lib.hid (hb.alloc hb.size (.cells #[.string ⟨x.key.toArray⟩, .bool x.pf.six, .int .u64 x.pf.hi, .int .u64 x.pf.lo, .int .i64 x.pf.bits] 67 (0, 0)))
          have BN := Lib.hid (heap_alloc_new wr (.cells #[.string ⟨x.key.toArray⟩, .bool x.pf.six, .int .u64 x.pf.hi, .int .u64 x.pf.lo, .int .i64 x.pf.bits] 67 (0, 0)))
          have BY := Lib.hid ((Below.heap_alloc wr (.cells #[.string ⟨x.key.toArray⟩, .bool x.pf.six, .int .u64 x.pf.hi, .int .u64 x.pf.lo, .int .i64 x.pf.bits] 67 (0, 0)) _ (lt_of_block BXr2.out)).trans BXr2.out)
          subst hA
          clear hcc hb hI
          go_wp2_with fail
          refine (key_any ⟨x.key.toArray⟩ _ (by show x.key.length ≤ maxLen; have := HX.out.2.1; unfold maxLen; omega)).mono ?_
          rintro e w3 ⟨rfl, hb3⟩
          rw [HX.out.1]
          have BN3 := Lib.hid ((hb3.block _ (lt_of_block BN.out)).trans BN.out)
          have BY3 := Lib.hid ((hb3.block _ (lt_of_block BY.out)).trans BY.out)
          have HB3 := Lib.hid (HBB.out.trans (hb3.mono HBB.out.size))
          obtain ⟨⟨y0, y1, y2, y3, y4⟩, -⟩ := res5 BN3.out
          obtain ⟨⟨x0, x1, x2, x3, x4, x5⟩, -⟩ := res6r BY3.out
          clear hb3 BN BY HBB
          go_wp2_with fail
          refine (refPrefixFault0 x.pf w3 HX.out.2.2).mono ?_
          rintro e w4 ⟨rfl, hb3⟩
          clear y0 y1 y2 y3 y4 x0 x1 x2 x3 x4 x5
          have BN4 := Lib.hid ((hb3.block _ (lt_of_block BN3.out)).trans BN3.out)
          have BY4 := Lib.hid ((hb3.block _ (lt_of_block BY3.out)).trans BY3.out)
          have HB4 := Lib.hid (HB3.out.trans (hb3.mono HB3.out.size))
          obtain ⟨⟨y0, y1, y2, y3, y4⟩, -⟩ := res5 BN4.out
          obtain ⟨⟨x0, x1, x2, x3, x4, x5⟩, -⟩ := res6r BY4.out
          clear hb3 BN3 BY3 HB3
          go_wp2_with fail
          refine (refWithin2 x.pf p w4 HX.out.2.2 HP.out).mono ?_
          rintro e w5 ⟨b, rfl, h5, hb3⟩
          have H5 := Lib.hid h5
          clear h5 y0 y1 y2 y3 y4 x0 x1 x2 x3 x4 x5
          have BN5 := Lib.hid ((hb3.block _ (lt_of_block BN4.out)).trans BN4.out)
          have BY5 := Lib.hid ((hb3.block _ (lt_of_block BY4.out)).trans BY4.out)
          have HB5 := Lib.hid (HB4.out.trans (hb3.mono HB4.out.size))
          obtain ⟨⟨y0, y1, y2, y3, y4⟩, -⟩ := res5 BN5.out
          obtain ⟨⟨x0, x1, x2, x3, x4, x5⟩, -⟩ := res6r BY5.out
          clear hb3 BN4 BY4 HB4
          cases b
          · go_wp2_with fail
            go_ret
            exact ⟨16, rfl, fun h => absurd h (by decide), HBE.out.trans (HB5.out.mono HBE.out.size)⟩
          · have hw20 : IntKind.i64.wrap (p.bits + 20) = p.bits + 20 := IntWalk.i64_in _ (by omega)
            by_cases hbt : x.pf.bits ≤ p.bits + 20
            · have hg1 : decide (p.bits + 20 < x.pf.bits) = false := by simpa using hbt
              cases kb : Op.bytesLess x.key last
              · cases ke : (x.key == last)
                · have HST2 : Hid (PfI2 p L (k + 1) x.key) := Lib.hid (HST.out (H5.out.1 (by trivial)) hbt (key_lt (by rw [bytesLess_eq] at kb; simpa using kb) (by simpa using ke)))
                  go_wp2_with fail
                  exact ⟨⟨k + 1, x.key, by omega, by simp, rfl, HST2.out, HB5.out⟩, by simp [intOf]; omega⟩
                · go_wp2_with fail
                  go_ret
                  exact ⟨7, rfl, fun h => absurd h (by decide), HBE.out.trans (HB5.out.mono HBE.out.size)⟩
              · go_wp2_with fail
                go_ret
                exact ⟨7, rfl, fun h => absurd h (by decide), HBE.out.trans (HB5.out.mono HBE.out.size)⟩
            · have hg1 : decide (p.bits + 20 < x.pf.bits) = true := by simpa using hbt
              go_wp2_with fail
              go_ret
              exact ⟨1, rfl, fun h => absurd h (by decide), HBE.out.trans (HB5.out.mono HBE.out.size)⟩
        · have hkl : k = L.length := by omega
          subst hkl
          have HBE2 := Lib.hid (HBE.out.trans (HBW.out.mono HBE.out.size))
          have HLr2 := Lib.hid (HL.out.below HBE2.out)
          have HKr2 := Lib.hid (HK.out.below HBE2.out)
          obtain ⟨⟨x0, x1, x2, x3, x4, x5⟩, -⟩ := res6r BXr2.out
          clear hb hI
          go_wp2_with fail
          obtain ⟨W3, hW3⟩ : ∃ W3, W3 = wr := ⟨_, rfl⟩
          rw [← hW3] at BXr2 HBE2 HLr2 HKr2 ⊢
          clear hW3 HBW x0 x1 x2 x3 x4 x5
          go_loopw [11, 12, 89] (fun _ _ v89 wr => ∃ k : Nat, k ≤ L.length ∧ v89 = .int .i64 k ∧ PfI3 K L k ∧ Below W3.heap.size W3 wr) (fun _ _ v89 _ => L.length - (intOf v89).toNat)
          case atStart => exact ⟨0, Nat.zero_le _, rfl, PfI3.start K L, Below.refl _ _⟩
          case round =>
            obtain ⟨k, hk, rfl, hJ, hb⟩ := hrel
            have HBW := Lib.hid hb
            have HJ := Lib.hid hJ
            have BXr3 := Lib.hid ((hb.block _ (lt_of_block BXr2.out)).trans BXr2.out)
            by_cases hlt : k < L.length
            · have HLw := Lib.hid (HLr2.out.below hb)
              have HKw := Lib.hid (HKr2.out.below hb)
              obtain ⟨g5, off, hA, hgB, hcc⟩ := HLw.out k hlt
              obtain ⟨c0, c1, c2, c3, c4⟩ := le_cells hcc
              have HX := Lib.hid (HLO.out (L.getD k noLe) (rw_mem hlt))
              have HST := Lib.hid (fun (a : K.any (fun y => touchB y (L.getD k noLe).pf) = false) (b : (L.take k).any (fun y => touchB y.pf (L.getD k noLe).pf) = false) => HJ.out.step hlt a b)
              generalize L.getD k noLe = x at *
              have hd : decide ((k : Int) < (L.length : Int)) = true := by simp; omega
              have HBB := Lib.hid (hb.alloc hb.size (.cells #[.string ⟨x.key.toArray⟩, .bool x.pf.six, .int .u64 x.pf.hi, .int .u64 x.pf.lo, .int .i64 x.pf.bits] 67 (0, 0)))
              have BN := Lib.hid (heap_alloc_new wr (.cells #[.string ⟨x.key.toArray⟩, .bool x.pf.six, .int .u64 x.pf.hi, .int .u64 x.pf.lo, .int .i64 x.pf.bits] 67 (0, 0)))
              have BY := Lib.hid ((Below.heap_alloc wr (.cells #[.string ⟨x.key.toArray⟩, .bool x.pf.six, .int .u64 x.pf.hi, .int .u64 x.pf.lo, .int .i64 x.pf.bits] 67 (0, 0)) _ (lt_of_block BXr3.out)).trans BXr3.out)
              have HKa := Lib.hid (HKw.out.below ((Below.refl _ _).alloc (Nat.le_refl _) (.cells #[.string ⟨x.key.toArray⟩, .bool x.pf.six, .int .u64 x.pf.hi, .int .u64 x.pf.lo, .int .i64 x.pf.bits] 67 (0, 0))))
              have HLa := Lib.hid (HLw.out.below ((Below.refl _ _).alloc (Nat.le_refl _) (.cells #[.string ⟨x.key.toArray⟩, .bool x.pf.six, .int .u64 x.pf.hi, .int .u64 x.pf.lo, .int .i64 x.pf.bits] 67 (0, 0))))
              subst hA
              clear hcc hb hJ
              go_upto_region 37 with (fail)
              generalize World.alloc wr _ = W4 at HBB BN BY HKa HLa ⊢
              generalize wr.heap.size = nb at BN ⊢
              obtain ⟨⟨x0, x1, x2, x3, x4, x5⟩, -⟩ := res6r BY.out
              go_wp2_with fail
              refine (px_any AK ck K 110 #[.pointer (some ⟨nb, 0, none⟩)] (fun y => touchB y x.pf) W4 entersP1 HKa.out (by omega) (fun V e he hbv => poolF1 x e nb V ((hbv.block _ (lt_of_block BN.out)).trans BN.out) (HKO.out e he).1 HX.out.2.2)).mono ?_
              rintro e w5 ⟨rfl, hb5⟩
              obtain ⟨b1, hb1⟩ : ∃ b, b = K.any (fun y => touchB y x.pf) := ⟨_, rfl⟩
              rw [← hb1]
              have E1 := Lib.hid hb1
              have BN5 := Lib.hid ((hb5.block _ (lt_of_block BN.out)).trans BN.out)
              have BY5 := Lib.hid ((hb5.block _ (lt_of_block BY.out)).trans BY.out)
              have HB5 := Lib.hid (HBB.out.trans (hb5.mono HBB.out.size))
              have HL5 := Lib.hid (HLa.out.below hb5)
              clear hb1 hb5 x0 x1 x2 x3 x4 x5
              obtain ⟨⟨x0, x1, x2, x3, x4, x5⟩, -⟩ := res6r BY5.out
              cases b1
              · have hkc : k ≤ cl := by omega
                have hc := le_any (some ⟨g5, off, none⟩) cl (L.take k) 112 #[.pointer (some ⟨nb, 0, none⟩)] (fun y => touchB y.pf x.pf) w5 entersP2 (RwAt.first HL5.out k) (by rw [List.length_take]; omega) (fun V e he hbv => poolF2 x e nb V ((hbv.block _ (lt_of_block BN5.out)).trans BN5.out) (HLO.out e (List.mem_of_mem_take he)).2.2 HX.out.2.2)
                rw [List.length_take, Nat.min_eq_left hk] at hc
                go_wp2_with fail
                refine hc.mono ?_
                rintro e w6 ⟨rfl, hb6⟩
                obtain ⟨b2, hb2⟩ : ∃ b, b = (L.take k).any (fun y => touchB y.pf x.pf) := ⟨_, rfl⟩
                rw [← hb2]
                have E2 := Lib.hid hb2
                have HB6 := Lib.hid (HB5.out.trans (hb6.mono HB5.out.size))
                clear hb2 hb6 hc
                cases b2
                · have HST2 := Lib.hid (HST.out E1.out.symm E2.out.symm)
                  go_wp2_with fail
                  exact ⟨⟨k + 1, by omega, by simp, HST2.out, HB6.out⟩, by simp [intOf]; omega⟩
                · go_wp2_with fail
                  go_ret
                  exact ⟨13, rfl, fun h => absurd h (by decide), HBE2.out.trans (HB6.out.mono HBE2.out.size)⟩
              · go_wp2_with fail
                go_ret
                exact ⟨13, rfl, fun h => absurd h (by decide), HBE2.out.trans (HB5.out.mono HBE2.out.size)⟩
            · have hkl : k = L.length := by omega
              subst hkl
              have HFIN : Hid (OkPl P) := Lib.hid (by
                obtain ⟨e1, e2, e3⟩ := HE.out
                have i1 := HI.out.ins
                have i2 := HI.out.ord
                have j1 := HJ.out.off
                have j2 := HJ.out.offK
                rw [List.take_length] at i1 i2 j1 j2
                exact ⟨by rw [← e1]; exact HP.out, fun y hy => by rw [← e1]; exact HKO.out y (by rw [e2]; exact hy), fun y hy => by rw [← e1]; rw [← e3] at hy; exact ⟨(HLO.out y hy).2.2, i1 y hy⟩, by rw [← e3]; exact i2, by rw [← e3]; exact j1, fun y hy z hz => by rw [← e3] at hy; rw [← e2] at hz; exact j2 y hy z hz⟩)
              clear hb hJ
              go_wp2_with fail
              go_ret
              exact ⟨0, rfl, fun _ => HFIN.out, HBE2.out.trans (HBW.out.mono HBE2.out.size)⟩
end Go.Proofs.YtajifionclpphaaGreatDoor
