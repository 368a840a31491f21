/- name.BackTo. -/
import Derived.Test.YtompamkhjikjlaaGreatDoorBaF
namespace Go.Proofs.YtompamkhjikjlaaGreatDoor
open Go.RowKit Go.Hw Go.Shelf Go.Sort

/-- strings.Split of the name's first part. -/
theorem rest_any (six : Bool) (N : Nat) (w : World) (V : NmVars w) :
    Calls Tryz.prog 14 #[.string (toB (Lib.join (backL six N) [46])), .string ⟨#[46]⟩] w fun e w' => e = .returned (.slice (some ⟨w.heap.size, 0, none⟩) (backL six N).length (backL six N).length) ∧ w' = RowT (backL six N) w := by
  obtain ⟨m, hm⟩ := V.mx
  have hs := rest_split six N
  have hj := join_short six N
  have hsp := Tryz.strings_Split (toB (Lib.join (backL six N) [46])) ⟨#[46]⟩ m w (by simp [toB, ByteArray.size]; omega) hm (by decide)
  rw [splitB_eq (s := toB (Lib.join (backL six N) [46])) hs, split_len (s := toB (Lib.join (backL six N) [46])) hs] at hsp
  exact hsp
theorem cut_own (six : Bool) (N : Nat) (w : World) :
    Calls Tryz.prog 13 #[.string (toB (backB six N)), .string (toB (tailB six))] w fun e w' => e = .returned (.tuple #[.string (toB (Lib.join (backL six N) [46])), .bool true]) ∧ w' = w := by
  have h := Tryz.strings_CutSuffix (toB (backB six N)) (toB (tailB six)) w (Nat.le_trans (back_short six N) (by omega))
  rw [toB_data, toB_data, backB, (suffix_own _ _).1, (suffix_own _ _).2] at h
  exact h
theorem cut_not (N : Nat) (w : World) :
    Calls Tryz.prog 13 #[.string (toB (backB false N)), .string (toB (tailB true))] w fun e w' => (∃ r, e = .returned (.tuple #[.string r, .bool false])) ∧ w' = w := by
  have h := Tryz.strings_CutSuffix (toB (backB false N)) (toB (tailB true)) w (Nat.le_trans (back_short false N) (by omega))
  rw [toB_data, toB_data, backB, suffix_not] at h
  exact h.mono fun e w' hh => ⟨⟨_, hh.1⟩, hh.2⟩
theorem domain_any (six : Bool) (N : Nat) (w : World) (V : NmVars w) :
    Calls Tryz.prog 12 #[.string (toB (backB six N))] w fun e w' => e = .returned (.int .i64 0) ∧ Below w.heap.size w w' := by
  obtain ⟨m, hm⟩ := V.mx
  exact checkDomain_any (toB (backB six N)) (backL six N ++ tailL six) m w hm (back_split six N) (all_plain six N) (Nat.le_trans (back_short six N) (by omega))

/-- The number after k digits. -/
def stN (e m N k : Nat) : Nat × Nat := ((List.range k).map (fun j => digitAt e N (m - 1 - j))).foldl (shiftIn e) (0, 0)
theorem stN_succ (e m N k : Nat) : stN e m N (k + 1) = shiftIn e (stN e m N k) (digitAt e N (m - 1 - k)) := by
  unfold stN
  rw [List.range_succ, List.map_append, List.foldl_append]
  rfl
/-- What a round of BackTo's loop finds: g the parts' row, B the number's block. -/
structure BtI (w : World) (six : Bool) (e m N g B : Nat) (dig : Nat → List UInt8) (k : Nat) (wr : World) : Prop where
  low : Below w.heap.size w wr
  out : wr.heap[w.heap.size]? = some (.cells #[.bool false, .int .u64 0, .int .u64 0] 28 (0, 0))
  rows : ∀ j, j < m → wr.cell? ⟨g, j, none⟩ = some (.string (toB (dig j)))
  num : wr.heap[B]? = some (.cells #[.bool six, .int .u64 (stN e m N k).1, .int .u64 (stN e m N k).2] 28 (0, 0))

theorem set_two {W : World} {B : Nat} {a0 a1 a2 u1 u2 : Value} {T : TypeId} (h : W.heap[B]? = some (.cells #[a0, a1, a2] T (0, 0))) : ((W.setCell ⟨B, 1, none⟩ u1).setCell ⟨B, 2, none⟩ u2).drew.heap[B]? = some (.cells #[a0, u1, u2] T (0, 0)) := by
  have hlt := (Array.getElem?_eq_some_iff.1 h).1
  have hv := (Array.getElem?_eq_some_iff.1 h).2
  simp [World.setCell, World.drew, -World.drew_eq, Array.getElem?_modify, h]
theorem set_three {W : World} {B : Nat} {a0 a1 a2 u0 u1 u2 : Value} {T : TypeId} (h : W.heap[B]? = some (.cells #[a0, a1, a2] T (0, 0))) : (((W.setCell ⟨B, 0, none⟩ u0).setCell ⟨B, 1, none⟩ u1).setCell ⟨B, 2, none⟩ u2).heap[B]? = some (.cells #[u0, u1, u2] T (0, 0)) := by
  simp [World.setCell, Array.getElem?_modify, h]
theorem BtI.step {w wr W6 : World} {six : Bool} {e m N g B k : Nat} {dig : Nat → List UInt8} {h' l' : Nat} (h : BtI w six e m N g B dig k wr) (hgB : g ≠ B) (hwB : w.heap.size < B) (hb : Below wr.heap.size wr W6) (hs : stN e m N (k + 1) = (h', l')) :
    BtI w six e m N g B dig (k + 1) ((W6.setCell ⟨B, 1, none⟩ (.int .u64 h')).setCell ⟨B, 2, none⟩ (.int .u64 l')).drew := by
  have hb0 := h.low.trans (hb.mono h.low.size)
  refine ⟨((hb0.setCell (by simp only []; omega) _).setCell (by simp only []; omega) _).drew, ?_, ?_, ?_⟩
  · have h1 := (hb.block _ (Array.getElem?_eq_some_iff.1 h.out).1).trans h.out
    refine Eq.trans ?_ h1
    exact (Below.heap_setCell _ _ _ _ (by simp only []; omega)).trans (Below.heap_setCell _ _ _ _ (by simp only []; omega))
  · intro j hj
    have h1 := h.rows j hj
    have hl1 := World.block_lt_of_cell? wr _ h1
    refine Eq.trans ?_ h1
    refine World.cell?_of_block ?_
    exact ((Below.heap_setCell _ _ _ _ hgB).trans (Below.heap_setCell _ _ _ _ hgB)).trans (hb.block _ hl1)
  · rw [hs]
    exact set_two ((hb.block _ (Array.getElem?_eq_some_iff.1 h.num).1).trans h.num)

theorem stN_fit {e m N k : Nat} (he : e ≤ 64) (hN : N < 18446744073709551616 * 18446744073709551616) (hm : N < 2 ^ (e * m)) (hk : k < m) : (stN e m N k).1 * 2 ^ e < 18446744073709551616 ∧ (stN e m N k).2 < 18446744073709551616 := by
  obtain ⟨v, -, b⟩ := digits_back he hN m hm k (by omega)
  have hd := digit_lt e N (m - 1 - k)
  have ht := top_step e N (m - 1 - k)
  rw [show m - 1 - k + 1 = m - k by omega] at ht
  have hle : N / 2 ^ (e * (m - 1 - k)) ≤ N := Nat.div_le_self _ _
  refine ⟨(shift_val (s := stN e m N k) he b hd ?_).2.2.2, b⟩
  have v' : valN (stN e m N k) = N / 2 ^ (e * (m - k)) := v
  rw [v']
  omega
theorem stN_end {e m N : Nat} (he : e ≤ 64) (hN : N < 18446744073709551616 * 18446744073709551616) (hm : N < 2 ^ (e * m)) : valN (stN e m N m) = N ∧ (stN e m N m).1 < 18446744073709551616 ∧ (stN e m N m).2 < 18446744073709551616 := by
  obtain ⟨v, a, b⟩ := digits_back he hN m hm m (Nat.le_refl _)
  refine ⟨?_, a, b⟩
  have v' : valN (stN e m N m) = N / 2 ^ (e * (m - m)) := v
  rw [v', Nat.sub_self, Nat.mul_zero, Nat.pow_zero, Nat.div_one]
theorem stN_pair {e m N hi lo : Nat} (he : e ≤ 64) (hN : N = hi * 18446744073709551616 + lo) (hh : hi < 18446744073709551616) (hl : lo < 18446744073709551616) (hm : N < 2 ^ (e * m)) : stN e m N m = (hi, lo) := by
  obtain ⟨v, a, b⟩ := stN_end (e := e) (m := m) (N := N) he (by omega) hm
  generalize stN e m N m = s at *
  obtain ⟨x, y⟩ := s
  simp only [valN] at v a b
  have : x = hi ∧ y = lo := by omega
  rw [this.1, this.2]
theorem six_hi {h l : Nat} (hh : h * 2 ^ 4 < 18446744073709551616) (hl : l < 18446744073709551616) : bits .or .u64 (IntKind.u64.wrap ((h : Int) * 16)) ((l : Int) / 1152921504606846976) = ((h * 2 ^ 4 + l / 2 ^ (64 - 4) : Nat) : Int) := by
  have e1 : IntKind.u64.wrap ((h : Int) * 16) = ((h * 2 ^ 4 : Nat) : Int) := by rw [IntKind.wrap_u64]; omega
  have e2 : (l : Int) / 1152921504606846976 = ((l / 2 ^ (64 - 4) : Nat) : Int) := by omega
  rw [e1, e2]
  exact shift_hi (by omega) hl hh
theorem six_lo {l D : Nat} (hD : D < 16) : bits .or .u64 (IntKind.u64.wrap ((l : Int) * 16)) (D : Int) = ((l * 2 ^ 4 % 18446744073709551616 + D : Nat) : Int) := by
  have e1 : IntKind.u64.wrap ((l : Int) * 16) = ((l * 2 ^ 4 % 18446744073709551616 : Nat) : Int) := by rw [IntKind.wrap_u64]; omega
  rw [e1]
  exact shift_lo (by omega) hD (by omega)

set_option maxRecDepth 100000 in
set_option maxHeartbeats 4000000 in
theorem backTo_six (hi lo : Nat) (hh : hi < 18446744073709551616) (hl : lo < 18446744073709551616) (w : World) (V : NmVars w) :
    Calls Tryz.prog 6 #[.string (toB (backB true (adN true hi lo)))] w fun e w' => e = .returned (.tuple #[.agg #[.bool true, .int .u64 hi, .int .u64 lo], .bool true, .int .i64 0]) ∧ Below w.heap.size w w' := by
  generalize hN : adN true hi lo = N
  have HN := Lib.hid hN
  have hNb : N < 18446744073709551616 * 18446744073709551616 := by rw [← hN]; unfold adN; simp only [if_true]; omega
  have hNm : N < 2 ^ (4 * 32) := hNb
  have HEND := Lib.hid (stN_pair (e := 4) (m := 32) (N := N) (hi := hi) (lo := lo) (by omega) (by rw [← hN]; rfl) hh hl hNm)
  have HBACK := Lib.hid fun W (V' : NmVars W) => (show Calls Tryz.prog 11 #[.agg #[.bool true, .int .u64 hi, .int .u64 lo]] W fun e w' => e = .returned (.string (toB (backB true N))) ∧ Below W.heap.size W w' from hN ▸ backIn_any true hi lo ⟨hh, hl, by simp⟩ W V')
  have HFIT := Lib.hid fun k (hk : k < 32) => stN_fit (e := 4) (m := 32) (by omega) hNb hNm hk
  have HV := Lib.hid V
  have hcut := cut_own true N
  have hrest := rest_any true N
  have hdom := domain_any true N
  have hlen := back_len true N
  have hrev := rev_any (backL true N) (by rw [hlen]; simp)
  rw [hlen] at hrev hrest
  clear hN V hNb hNm
  have HA := Lib.hid ((Below.refl w.heap.size w).alloc (Nat.le_refl _) (.cells #[.bool false, .int .u64 0, .int .u64 0] 28))
  have HX : Hid ((w.alloc (.cells #[.bool false, .int .u64 0, .int .u64 0] 28)).heap[w.heap.size]? = some (.cells #[.bool false, .int .u64 0, .int .u64 0] 28 (0, 0))) := Lib.hid (heap_alloc_new _ _)
  go_enter Tryz.func6, Tryz.ntmps6
  go_wp2_with fail
  generalize w.alloc _ = W1 at *
  refine (hdom W1 (HV.out.below HA.out (Nat.le_refl _))).mono ?_
  rintro e W2 ⟨rfl, hb2⟩
  have HB2 := Lib.hid (HA.out.trans (hb2.mono HA.out.size))
  have HX2 := Lib.hid ((hb2.block _ (Array.getElem?_eq_some_iff.1 HX.out).1).trans HX.out)
  clear hb2 HA HX hdom
  go_wp2_with fail
  refine (hcut W2).mono ?_
  rintro e w' ⟨rfl, rfl⟩
  go_wp2_with fail
  refine (hrest _ (HV.out.below HB2.out (Nat.le_refl _))).mono ?_
  rintro e W3 ⟨rfl, rfl⟩
  go_wp2_with fail
  refine (hrev w').mono ?_
  rintro e W4 ⟨rfl, hb4, hlt4, hc4⟩
  have HB4 := Lib.hid (HB2.out.trans (hb4.mono HB2.out.size))
  have HX4 := Lib.hid ((hb4.block _ (Array.getElem?_eq_some_iff.1 HX2.out).1).trans HX2.out)
  have HC4 : Hid (∀ j, j < 32 → W4.cell? ⟨w'.heap.size, j, none⟩ = some (.string (toB [hexB (digitAt 4 N (32 - 1 - j))]))) := Lib.hid fun j hj => hc4 j _ (by rw [back_rev_six]; simp [hj])
  have HG := Lib.hid hlt4
  clear hb4 hlt4 hc4 hrev hrest hcut
  go_wp2_with fail
  have hI0 : BtI w true 4 32 N w'.heap.size W4.heap.size (fun j => [hexB (digitAt 4 N (32 - 1 - j))]) 0 (W4.alloc (.cells #[.bool true, .int .u64 0, .int .u64 0] 28)) := by
    refine ⟨HB4.out.alloc HB4.out.size _, ?_, ?_, heap_alloc_new _ _⟩
    · rw [Below.heap_alloc _ _ _ (Array.getElem?_eq_some_iff.1 HX4.out).1]; exact HX4.out
    · intro j hj
      exact (World.cell?_of_block (Below.heap_alloc W4 _ _ HG.out)).trans (HC4.out j hj)
  have HI0 := Lib.hid hI0
  have hwB : Hid (w.heap.size < W4.heap.size) := Lib.hid (Array.getElem?_eq_some_iff.1 HX4.out).1
  generalize W4.alloc _ = W5 at *
  generalize W4.heap.size = B at *
  generalize w'.heap.size = g at *
  clear hI0 HC4 HB4 HX4
  go_loopw [43] (fun v43 wr => ∃ k : Nat, k ≤ 32 ∧ v43 = .int .i64 k ∧ BtI w true 4 32 N g B (fun j => [hexB (digitAt 4 N (32 - 1 - j))]) k wr) (fun v43 _ => 32 - (intOf v43).toNat)
  case atStart => exact ⟨0, by omega, rfl, HI0.out⟩
  case round =>
    obtain ⟨k, hk, rfl, hit⟩ := hrel
    by_cases hlt : k < 32
    · have hrow := hit.rows k hlt
      have hd : digitAt 4 N (32 - 1 - k) < 16 := digit_lt 4 N _
      have hparse := parse16_any _ hd wr
      have HI := Lib.hid hit
      generalize hD : digitAt 4 N (32 - 1 - k) = D at *
      have HD := Lib.hid hD
      clear hit hD
      go_wp2_with fail
      refine hparse.mono ?_
      rintro e W6 ⟨rfl, hb6⟩
      clear hparse hrow
      have HB6 := Lib.hid hb6
      have hnum := (hb6.block _ (Array.getElem?_eq_some_iff.1 HI.out.num).1).trans HI.out.num
      generalize hst : stN 4 32 N k = st at *
      obtain ⟨h, l⟩ := st
      obtain ⟨x0, x1, x2, f0, f1, f2⟩ := res3 hnum
      have hfit := HFIT.out k hlt
      rw [hst] at hfit
      have hA := six_hi hfit.1 hfit.2
      have hL := six_lo (l := l) hd
      obtain ⟨h', eh⟩ : ∃ h', h' = h * 2 ^ 4 + l / 2 ^ (64 - 4) := ⟨_, rfl⟩
      obtain ⟨l', el⟩ : ∃ l', l' = l * 2 ^ 4 % 18446744073709551616 + D := ⟨_, rfl⟩
      rw [← eh] at hA
      rw [← el] at hL
      have hs' : stN 4 32 N (k + 1) = (h', l') := by rw [stN_succ, hst, HD.out, eh, el]; rfl
      have HREL : Hid (BtI w true 4 32 N g B (fun j => [hexB (digitAt 4 N (32 - 1 - j))]) (k + 1) ((W6.setCell ⟨B, 1, none⟩ (.int .u64 h')).setCell ⟨B, 2, none⟩ (.int .u64 l')).drew) := Lib.hid (HI.out.step (by have := HG.out; omega) hwB.out HB6.out hs')
      clear hst hnum hb6 hfit eh el hs'
      go_wp2_with fail
      have hw60 : IntKind.i64.wrap 60 = 60 := by decide
      go_region_law (go_simp)
      all_goals (try simp only [hA, hL])
      all_goals clear hA hL x0 x1 x2 f0 f1 f2
      all_goals go_wp2_with fail
      all_goals exact ⟨⟨k + 1, by omega, by simp, HREL.out⟩, by simp [intOf]; omega⟩
    · obtain rfl : k = 32 := by omega
      clear hlt
      have HI := Lib.hid hit
      have hnum := hit.num
      rw [HEND.out] at hnum
      obtain ⟨x0, x1, x2, f0, f1, f2⟩ := res3 hnum
      have HNUM := Lib.hid hnum
      have hck := checkAddr_any true hi lo wr (by omega)
      rw [show addrCode true hi lo = 0 from by simp [addrCode]] at hck
      clear hit hnum
      go_wp2_with fail
      refine hck.mono ?_
      rintro e W7 ⟨rfl, hb7⟩
      have HB7 := Lib.hid (HI.out.low.trans (hb7.mono HI.out.low.size))
      have HNUM7 := Lib.hid ((hb7.block _ (Array.getElem?_eq_some_iff.1 HNUM.out).1).trans HNUM.out)
      have HOUT7 := Lib.hid ((hb7.block _ (Array.getElem?_eq_some_iff.1 HI.out.out).1).trans HI.out.out)
      clear hck hb7 x0 x1 x2 f0 f1 f2
      obtain ⟨x0, x1, x2, f0, f1, f2⟩ := res3 HNUM7.out
      go_wp2_with fail
      refine (HBACK.out W7 (HV.out.below HB7.out (Nat.le_refl _))).mono ?_
      rintro e W8 ⟨rfl, hb8⟩
      have HB8 := Lib.hid (HB7.out.trans (hb8.mono HB7.out.size))
      have HNUM8 := Lib.hid ((hb8.block _ (Array.getElem?_eq_some_iff.1 HNUM7.out).1).trans HNUM7.out)
      have HOUT8 := Lib.hid ((hb8.block _ (Array.getElem?_eq_some_iff.1 HOUT7.out).1).trans HOUT7.out)
      clear hb8 x0 x1 x2 f0 f1 f2
      obtain ⟨x0, x1, x2, f0, f1, f2⟩ := res3 HNUM8.out
      obtain ⟨y0, y1, y2, k0, k1, k2⟩ := res3 HOUT8.out
      go_wp2_with fail
      have h9 := set_three HOUT8.out (u0 := .bool true) (u1 := .int .u64 hi) (u2 := .int .u64 lo)
      have hb9 : Below w.heap.size w (((W8.setCell ⟨w.heap.size, 0, none⟩ (.bool true)).setCell ⟨w.heap.size, 1, none⟩ (.int .u64 hi)).setCell ⟨w.heap.size, 2, none⟩ (.int .u64 lo)) := ((HB8.out.setCell (by simp) _).setCell (by simp) _).setCell (by simp) _
      generalize ((W8.setCell _ _).setCell _ _).setCell _ _ = W9 at *
      clear x0 x1 x2 f0 f1 f2 y0 y1 y2 k0 k1 k2
      obtain ⟨y0, y1, y2, k0, k1, k2⟩ := res3 h9
      refine bodyPost_ret (v := .tuple #[.agg #[.bool true, .int .u64 hi, .int .u64 lo], .bool true, .int .i64 0]) (by simp [results, Tryz.results6, go_sem, y0, y1, y2]) rfl ⟨rfl, hb9⟩
end Go.Proofs.YtompamkhjikjlaaGreatDoor
