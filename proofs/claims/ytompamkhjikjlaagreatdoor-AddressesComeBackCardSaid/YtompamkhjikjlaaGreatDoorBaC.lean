/- name.back. -/
import Derived.Test.YtompamkhjikjlaaGreatDoorBaB
import Derived.Test.YtompamkhjikjlaaGreatDoorRe
namespace Go.Proofs.YtompamkhjikjlaaGreatDoor
open Go.RowKit Go.Hw Go.Shelf

theorem mask_eq {N : Nat} (hN : N < 18446744073709551616) (s e : Nat) (he : e ≤ 8) : bits .and .u64 ((N : Int) / 2 ^ s) ((2 ^ e - 1 : Nat) : Int) = ((N / 2 ^ s % 2 ^ e : Nat) : Int) := by
  have h1 : (2 : Nat) ^ e ≤ 2 ^ 8 := Nat.pow_le_pow_right (by omega) he
  have h2 : (2 : Nat) ^ 8 = 256 := rfl
  have h3 : N / 2 ^ s ≤ N := Nat.div_le_self _ _
  have e1 : (N : Int) / 2 ^ s = ((N / 2 ^ s : Nat) : Int) := by simp
  rw [e1]
  generalize N / 2 ^ s = q at *
  rw [u64_and _ _ (by omega) (by omega) (by omega) (by omega)]
  rw [Int.toNat_natCast, Int.toNat_natCast, Nat.and_two_pow_sub_one_eq_mod]
def adO (six : Bool) (hi lo : Int) : Obj := .cells #[.bool six, .int .u64 hi, .int .u64 lo] 28 (0, 0)
def strsC (xs : List (List UInt8)) : List Value := xs.map fun x => .string (toB x)
theorem strs_snoc (xs : List (List UInt8)) (x : List UInt8) : strsC (xs ++ [x]) = strsC xs ++ [.string (toB x)] := by simp [strsC]
theorem own_as {w : World} {base : Nat} {e : TypeId} {size : Nat} {v : Value} {n m : Nat} {xs ys : List Value} (h : w.ownsRow base e size v n xs) (hn : n = m) (hx : xs = ys) : w.ownsRow base e size v m ys := by
  subst hn; subst hx; exact h
theorem infoString : (Tryz.prog.info? 9).map (fun i => (i.zero, i.size, i.bytes)) = some (some (.string ⟨#[]⟩), 1, 16) := by kernel_rfl
def StrsOwn (w : World) (base : Nat) (v : Value) (xs : List (List UInt8)) : Prop := w.ownsRow base 9 1 v xs.length (strsC xs)
theorem back_four_take (N : Nat) {k : Nat} (hk : k < 4) : (backL false N).take (k + 1) = (backL false N).take k ++ [Lib.decDigits (digitAt 8 N k)] := by
  rw [List.take_succ_eq_append_getElem (by rw [back_len]; exact hk)]
  simp [backL]
theorem back_six_take (N : Nat) {k : Nat} (hk : k < 32) : (backL true N).take (k + 1) = (backL true N).take k ++ [[hexB (digitAt 4 N k)]] := by
  rw [List.take_succ_eq_append_getElem (by rw [back_len]; exact hk)]
  simp [backL]
theorem backL_ne (six : Bool) (N : Nat) {k : Nat} (hk : 0 < k) : 0 < ((backL six N).take k).length := by
  rw [List.length_take, back_len]; cases six <;> simp <;> omega
theorem strs_at {w : World} {base : Nat} {v : Value} {xs : List (List UInt8)} (h : StrsOwn w base v xs) (h0 : 0 < xs.length) :
    ∃ bk cap, v = .slice (some ⟨bk, 0, none⟩) xs.length cap ∧ base ≤ bk ∧ bk < w.heap.size ∧ xs.length ≤ cap ∧ ∀ (j : Nat) x, (xs.map toB)[j]? = some x → w.cell? ⟨bk, 0 + j, none⟩ = some (.string x) := by
  obtain ⟨A, cap, rfl, hr⟩ := own_reads h
  obtain ⟨h1, ⟨h2, h3⟩ | ⟨g, cap', cur, h3, h4, h5, h6, -⟩⟩ := h
  · omega
  · simp only [Value.slice.injEq, true_and] at h3
    obtain ⟨rfl, rfl⟩ := h3
    refine ⟨g, cap, rfl, h4, (Array.getElem?_eq_some_iff.1 h5).1, h6, ?_⟩
    intro j x hx
    obtain ⟨y, hy, rfl⟩ : ∃ y, xs[j]? = some y ∧ toB y = x := by simpa using hx
    obtain ⟨g', e1, -, e2⟩ := hr j (.string (toB y)) (by simp [strsC, hy])
    cases e1
    rw [Nat.zero_add]
    exact e2
theorem toB_map (xs : List (List UInt8)) : (xs.map toB).map (·.data.toList) = xs := by
  rw [List.map_map]
  exact (List.map_congr_left (fun x _ => rfl)).trans (List.map_id _)
theorem join_short (six : Bool) (N : Nat) : (Lib.join (backL six N) [46]).length ≤ 72 := by
  have h := back_short six N
  unfold backB at h
  rw [List.length_append] at h
  omega
/-- What the loops have laid so far. -/
def BkI (w : World) (six : Bool) (hi lo N : Nat) (n : Nat) (v3 : Value) (wr : World) : Prop :=
  ∃ sv, sv = v3 ∧ StrsOwn wr (w.heap.size + 1) sv ((backL six N).take n) ∧ Below w.heap.size w wr ∧ wr.heap[w.heap.size]? = some (.cells #[.bool six, .int .u64 hi, .int .u64 lo] 28 (0, 0))

set_option maxRecDepth 100000 in
set_option maxHeartbeats 2000000 in
theorem back_four (lo : Nat) (hl : lo < 4294967296) (w : World) (V : NmVars w) :
    Calls Tryz.prog 11 #[.agg #[.bool false, .int .u64 0, .int .u64 lo]] w fun e w' => e = .returned (.string (toB (backB false lo))) ∧ Below w.heap.size w w' := by
  obtain ⟨i0, hi, hz0, hz1, hz2⟩ := info_parts infoString
  have hB : Below w.heap.size w (w.alloc (adO false 0 lo)) := (Below.refl _ _).alloc (Nat.le_refl _) _
  have hx : (w.alloc (adO false 0 lo)).heap[w.heap.size]? = some (adO false 0 lo) := heap_alloc_new _ _
  have HV := Lib.hid V
  have hn0 : BkI w false 0 lo lo 0 (.slice none 0 0) (w.alloc (adO false 0 lo)) := ⟨_, rfl, World.ownsRow_nil _ _ _ _, hB, hx⟩
  obtain ⟨x0, x1, x2, -⟩ := res3 hx
  unfold adO at hn0 x0 x1 x2
  have HN0 := Lib.hid hn0
  clear hB hx V hn0
  go_enter Tryz.func11, Tryz.ntmps11
  go_wp2_with fail
  generalize World.alloc w _ = W at *
  clear x0 x1 x2
  go_loopw [3, 11] (fun v3 v11 wr => ∃ k : Nat, k ≤ 4 ∧ v11 = .int .i64 k ∧ BkI w false 0 lo lo k v3 wr) (fun _ v11 _ => 4 - (intOf v11).toNat)
  case atStart => exact ⟨0, by omega, rfl, HN0.out⟩
  case round =>
    obtain ⟨k, hk, rfl, sv, rfl, hO, hb, hx⟩ := hrel
    by_cases hlt : k < 4
    · obtain ⟨x0, x1, x2, -⟩ := res3 hx
      have hd : digitAt 8 lo k < 256 := digit_lt 8 lo k
      have hm := mask_eq (N := lo) (by omega) (8 * k) 8 (by omega)
      have hm' : bits .and .u64 ((lo : Int) / 2 ^ (8 * k)) 255 = ((digitAt 8 lo k : Nat) : Int) := hm
      have hfm := fun W' (hW : Below wr.heap.size wr W') => fmt10_any (digitAt 8 lo k) hd W' ((HV.out.below hb (Nat.le_refl _)).below hW (Nat.le_refl _)).tab
      have s0 : IntKind.i64.wrap (8 * (k : Int)) = 8 * (k : Int) := IntWalk.i64_in _ (by omega)
      have s1 : (8 * (k : Int)).toNat = 8 * k := by omega
      have s2 : 8 * (k : Int) < 64 := by omega
      have s3 : (0 : Int) ≤ 8 * (k : Int) := by omega
      have HO := Lib.hid hO
      have HB := Lib.hid hb
      have HX := Lib.hid hx
      clear hO hb hx hm
      go_wp2_with fail
      refine (hfm wr (Below.refl _ _)).mono ?_
      rintro e w2 ⟨rfl, hb2⟩
      have HO2 : Hid (w2.ownsRow (w.heap.size + 1) 9 1 sv ((backL false lo).take k).length (strsC ((backL false lo).take k))) := Lib.hid (own_below HO.out hb2 (Nat.le_refl _))
      have HB2 := Lib.hid (HB.out.trans (hb2.mono HB.out.size))
      have HX2 := Lib.hid ((hb2.block _ (Array.getElem?_eq_some_iff.1 HX.out).1).trans HX.out)
      have hlen : ((backL false lo).take k).length = k := by rw [List.length_take, back_len]; simp; omega
      have hsz := HB2.out.size
      go_wp2_with (at_builtin; refine wpList_append_own _ rfl (.tmp 14) (.tmp 22) 45 rfl (w.heap.size + 1) 9 i0 (.string ⟨#[]⟩) 1 16 Tryz.underlying45 hi hz0 hz1 hz2 rfl (by decide) _ _ _ rfl (World.ownsRow.alloc HO2.out _) ⟨w2.heap.size, 0, none⟩ 1 1 [.string (toB (Lib.decDigits (digitAt 8 lo k)))] rfl rfl (cells_new w2 [.string (toB (Lib.decDigits (digitAt 8 lo k)))] _) (by simp [Value.oneCell']) (by unfold maxLen; first | omega | (simp; omega)) (by first | omega | (simp; omega)) (by first | omega | (simp; omega) | simp) ?_)
      intro v' w4 ho4 hg4 _
      have hlt' := World.ownsRow.lt HO2.out
      have hown : StrsOwn w4 (w.heap.size + 1) v' ((backL false lo).take (k + 1)) := by
        rw [back_four_take lo hlt]
        unfold StrsOwn
        rw [strs_snoc]
        exact own_as ho4 (by rw [List.length_append, hlen]; rfl) rfl
      have hbn := (HB2.out.alloc HB2.out.size _).grown hg4 (HB2.out.alloc HB2.out.size _).size (fun j hj => by have := (hlt' j hj).1; omega)
      have hxx := HX2.out
      have hx4 : w4.heap[w.heap.size]? = some (.cells #[.bool false, .int .u64 0, .int .u64 lo] 28 (0, 0)) := by
        have hl0 := (Array.getElem?_eq_some_iff.1 hxx).1
        rw [hg4.block _ (by rw [World.alloc]; simp; omega) (by intro e1; have := (hlt' _ e1.symm).1; omega), Below.heap_alloc _ _ _ hl0]
        exact hxx
      have HREL : Hid (BkI w false 0 lo lo (k + 1) v' w4) := Lib.hid ⟨v', rfl, hown, hbn, hx4⟩
      clear ho4 hg4 hlt' hown hbn x0 x1 x2 hx4 hxx
      go_wp2_with fail
      exact ⟨⟨k + 1, by omega, by simp, HREL.out⟩, by simp [intOf]; omega⟩
    · obtain rfl : k = 4 := by omega
      clear hlt
      have HO := Lib.hid hO
      have HB := Lib.hid hb
      have hfull : (backL false lo).take 4 = backL false lo := List.take_of_length_le (by rw [back_len]; simp)
      rw [hfull] at hO
      obtain ⟨bk, cap, hv, -, hbk, hcap, hcells⟩ := strs_at hO (by rw [back_len]; simp)
      subst hv
      have hlen := back_len false lo
      have hsh : (Lib.join (backL false lo) [46]).length ≤ 72 := join_short false lo
      have hj := Tryz.strings_Join bk 0 cap ((backL false lo).map toB) ⟨#[46]⟩ wr hcells hbk (by rw [List.length_map, hlen]; simp) (by rw [List.length_map]; exact hcap) (by rw [toB_map]; simpa using Nat.le_trans hsh (by omega))
      rw [List.length_map, toB_map] at hj
      generalize hJ : Lib.join (backL false lo) [46] = J at *
      clear hO hb hx
      go_wp2_with fail
      refine hj.mono ?_
      rintro e w2 ⟨rfl, hb2⟩
      go_wp2_with fail
      have hres : (⟨J.toArray⟩ : ByteArray) ++ ⟨#[46, 105, 110, 45, 97, 100, 100, 114, 46, 97, 114, 112, 97]⟩ = toB (backB false lo) := by
        unfold backB
        rw [hJ]
        rw [ByteArray.mk_append_mk]
        simp [toB, tailB]
      rw [hres]
      refine bodyPost_ret (v := .string (toB (backB false lo))) (by simp [results, Tryz.results11, go_sem]) rfl ⟨rfl, HB.out.trans (hb2.mono HB.out.size)⟩
theorem two_words : Tryz.prog.underlying 75 = some (.array 2 26) := by kernel_rfl
theorem index_two (a b : Int) (w : World) :
    (Instr.index 75 (.agg #[.int .u64 a, .int .u64 b]) (.int .i64 0)).run Tryz.prog w = .ok (.int .u64 a) w ∧ (Instr.index 75 (.agg #[.int .u64 a, .int .u64 b]) (.int .i64 1)).run Tryz.prog w = .ok (.int .u64 b) w := by
  have h := two_words
  constructor <;> simp [Instr.index, run_underlying h, asIntOf, go_sem]
theorem dig_lo {hi lo N : Nat} (hN : N = hi * 18446744073709551616 + lo) {k : Nat} (hk : k < 16) : lo / 2 ^ (4 * k) % 2 ^ 4 = digitAt 4 N (0 + k) := by
  subst hN
  unfold digitAt
  have e1 : (18446744073709551616 : Nat) = 2 ^ (60 - 4 * k) * 2 ^ 4 * 2 ^ (4 * k) := by
    rw [← Nat.pow_add, ← Nat.pow_add, show 60 - 4 * k + 4 + 4 * k = 64 by omega]
  have hp : 0 < 2 ^ (4 * k) := Nat.pow_pos (by omega)
  rw [Nat.zero_add, e1, ← Nat.mul_assoc, Nat.add_comm, Nat.add_mul_div_right _ _ hp, ← Nat.mul_assoc, Nat.add_mul_mod_self_right]
theorem dig_hi {hi lo N : Nat} (hN : N = hi * 18446744073709551616 + lo) (hl : lo < 18446744073709551616) {k : Nat} : hi / 2 ^ (4 * k) % 2 ^ 4 = digitAt 4 N (16 + k) := by
  subst hN
  unfold digitAt
  have e1 : (2 : Nat) ^ (4 * (16 + k)) = 18446744073709551616 * 2 ^ (4 * k) := by
    rw [show 4 * (16 + k) = 64 + 4 * k by omega, Nat.pow_add]
  rw [e1, ← Nat.div_div_eq_div_mul, show (hi * 18446744073709551616 + lo) / 18446744073709551616 = hi by omega]

set_option maxRecDepth 100000 in
set_option maxHeartbeats 4000000 in
theorem back_six (hi_ lo N : Nat) (hN : N = hi_ * 18446744073709551616 + lo) (hh : hi_ < 18446744073709551616) (hl : lo < 18446744073709551616) (w : World) (V : NmVars w) :
    Calls Tryz.prog 11 #[.agg #[.bool true, .int .u64 hi_, .int .u64 lo]] w fun e w' => e = .returned (.string (toB (backB true N))) ∧ Below w.heap.size w w' := by
  obtain ⟨i0, hi, hz0, hz1, hz2⟩ := info_parts infoString
  have hB : Below w.heap.size w (w.alloc (adO true hi_ lo)) := (Below.refl _ _).alloc (Nat.le_refl _) _
  have hx : (w.alloc (adO true hi_ lo)).heap[w.heap.size]? = some (adO true hi_ lo) := heap_alloc_new _ _
  have HV := Lib.hid V
  have hn0 : BkI w true hi_ lo N 0 (.slice none 0 0) (w.alloc (adO true hi_ lo)) := ⟨_, rfl, World.ownsRow_nil _ _ _ _, hB, hx⟩
  obtain ⟨x0, x1, x2, -⟩ := res3 hx
  unfold adO at hn0 x0 x1 x2
  have HN0 := Lib.hid hn0
  have HLO : Hid (∀ k, k < 16 → lo / 2 ^ (4 * k) % 2 ^ 4 = digitAt 4 N (0 + k)) := Lib.hid fun k hk => dig_lo hN hk
  have HHI : Hid (∀ k, k < 16 → hi_ / 2 ^ (4 * k) % 2 ^ 4 = digitAt 4 N (16 + k)) := Lib.hid fun k hk => dig_hi hN hl
  clear hB hx V hn0 hN
  go_enter Tryz.func11, Tryz.ntmps11
  go_wp2_with fail
  generalize World.alloc w _ = W at *
  clear x0 x1 x2
  go_loopw [3, 33] (fun v3 v33 wr => ∃ i : Nat, i ≤ 2 ∧ v33 = .int .i64 i ∧ BkI w true hi_ lo N (16 * i) v3 wr) (fun _ v33 _ => 2 - (intOf v33).toNat)
  case atStart => exact ⟨0, by omega, rfl, HN0.out⟩
  case round =>
    obtain ⟨i, hil, rfl, hrl⟩ := hrel
    have HRL := Lib.hid hrl
    clear hrl
    have hi0 : ∀ W : World, (Instr.index 75 (.agg #[.int .u64 lo, .int .u64 hi_]) (.int .i64 0)).run Tryz.prog W = .ok (.int .u64 lo) W := fun W => (index_two _ _ W).1
    have hi1 : ∀ W : World, (Instr.index 75 (.agg #[.int .u64 lo, .int .u64 hi_]) (.int .i64 1)).run Tryz.prog W = .ok (.int .u64 hi_) W := fun W => (index_two _ _ W).2
    obtain rfl | rfl | rfl : i = 0 ∨ i = 1 ∨ i = 2 := by omega
    · go_wp2_with fail
      go_loopw [3, 36] (fun v3 v36 wr => ∃ k : Nat, k ≤ 16 ∧ v36 = .int .i64 k ∧ BkI w true hi_ lo N (0 + k) v3 wr) (fun _ v36 _ => 16 - (intOf v36).toNat)
      case atStart => exact ⟨0, by omega, rfl, HRL.out⟩
      case round =>
        obtain ⟨k, hk, rfl, sv, rfl, hO, hb, hx⟩ := hrel
        by_cases hlt : k < 16
        · obtain ⟨x0, x1, x2, -⟩ := res3 hx
          obtain ⟨D, HD⟩ : ∃ D, Hid (digitAt 4 N (0 + k) = D) := ⟨_, Lib.hid rfl⟩
          have hde : lo / 2 ^ (4 * k) % 2 ^ 4 = D := (HLO.out k hlt).trans HD.out
          have hd : D < 16 := HD.out ▸ digit_lt 4 N (0 + k)
          have hm := mask_eq (N := lo) (by omega) (4 * k) 4 (by omega)
          rw [hde] at hm
          have hm' : bits .and .u64 ((lo : Int) / 2 ^ (4 * k)) 15 = ((D : Nat) : Int) := hm
          have hfm := fun W' (hW : Below wr.heap.size wr W') => fmt16_any (D) hd W' ((HV.out.below hb (Nat.le_refl _)).below hW (Nat.le_refl _)).tz
          have s0 : IntKind.i64.wrap (4 * (k : Int)) = 4 * (k : Int) := IntWalk.i64_in _ (by omega)
          have s1 : (4 * (k : Int)).toNat = 4 * k := by omega
          have s2 : 4 * (k : Int) < 64 := by omega
          have s3 : (0 : Int) ≤ 4 * (k : Int) := by omega
          have HO := Lib.hid hO
          have HB := Lib.hid hb
          have HX := Lib.hid hx
          clear hO hb hx hm hde
          go_wp2_with fail
          refine (hfm wr (Below.refl _ _)).mono ?_
          rintro e w2 ⟨rfl, hb2⟩
          have HO2 : Hid (w2.ownsRow (w.heap.size + 1) 9 1 sv ((backL true N).take (0 + k)).length (strsC ((backL true N).take (0 + k)))) := Lib.hid (own_below HO.out hb2 (Nat.le_refl _))
          have HB2 := Lib.hid (HB.out.trans (hb2.mono HB.out.size))
          have HX2 := Lib.hid ((hb2.block _ (Array.getElem?_eq_some_iff.1 HX.out).1).trans HX.out)
          have hlen : ((backL true N).take (0 + k)).length = 0 + k := by rw [List.length_take, back_len]; simp; omega
          have HLN := Lib.hid hlen
          have hsz := HB2.out.size
          go_wp2_with (at_builtin; refine wpList_append_own _ rfl (.tmp 39) (.tmp 46) 45 rfl (w.heap.size + 1) 9 i0 (.string ⟨#[]⟩) 1 16 Tryz.underlying45 hi hz0 hz1 hz2 rfl (by decide) _ _ _ rfl (World.ownsRow.alloc HO2.out _) ⟨w2.heap.size, 0, none⟩ 1 1 [.string (toB [hexB (D)])] rfl rfl (cells_new w2 [.string (toB [hexB (D)])] _) (by simp [Value.oneCell']) (by unfold maxLen; first | omega | (simp; omega)) (by first | omega | (simp; omega)) (by first | omega | (simp; omega) | simp) ?_)
          intro v' w4 ho4 hg4 _
          have hlt' := World.ownsRow.lt HO2.out
          have hown : StrsOwn w4 (w.heap.size + 1) v' ((backL true N).take (0 + (k + 1))) := by
            rw [← Nat.add_assoc, back_six_take N (by omega), HD.out]
            unfold StrsOwn
            rw [strs_snoc]
            exact own_as ho4 (by rw [List.length_append, ← HLN.out] <;> simp) (by first | rfl | simp)
          have hbn := (HB2.out.alloc HB2.out.size _).grown hg4 (HB2.out.alloc HB2.out.size _).size (fun j hj => by have := (hlt' j hj).1; omega)
          have hxx := HX2.out
          have hx4 : w4.heap[w.heap.size]? = some (.cells #[.bool true, .int .u64 hi_, .int .u64 lo] 28 (0, 0)) := by
            have hl0 := (Array.getElem?_eq_some_iff.1 hxx).1
            rw [hg4.block _ (by rw [World.alloc]; simp; omega) (by intro e1; have := (hlt' _ e1.symm).1; omega), Below.heap_alloc _ _ _ hl0]
            exact hxx
          have HREL : Hid (BkI w true hi_ lo N (0 + (k + 1)) v' w4) := Lib.hid ⟨v', rfl, hown, hbn, hx4⟩
          clear ho4 hg4 hlt' hown hbn x0 x1 x2 hx4 hxx
          go_wp2_with fail
          go_roundw
          case rel => exact ⟨_, _, _, _, _, _, _, _, _, _, _, _, _, _, _, ⟨k + 1, by omega, by simp, HREL.out⟩, rfl⟩
          case measure => simp [intOf]; omega
        · obtain rfl : k = 16 := by omega
          have HRL2 := Lib.hid (show BkI w true hi_ lo N (16 * (0 + 1)) sv wr from ⟨sv, rfl, hO, hb, hx⟩)
          clear hO hb hx hlt
          go_wp2_with fail
          exact ⟨⟨0 + 1, by omega, by simp, HRL2.out⟩, by simp [intOf]⟩
    · go_wp2_with fail
      go_loopw [3, 36] (fun v3 v36 wr => ∃ k : Nat, k ≤ 16 ∧ v36 = .int .i64 k ∧ BkI w true hi_ lo N (16 + k) v3 wr) (fun _ v36 _ => 16 - (intOf v36).toNat)
      case atStart => exact ⟨0, by omega, rfl, HRL.out⟩
      case round =>
        obtain ⟨k, hk, rfl, sv, rfl, hO, hb, hx⟩ := hrel
        by_cases hlt : k < 16
        · obtain ⟨x0, x1, x2, -⟩ := res3 hx
          obtain ⟨D, HD⟩ : ∃ D, Hid (digitAt 4 N (16 + k) = D) := ⟨_, Lib.hid rfl⟩
          have hde : hi_ / 2 ^ (4 * k) % 2 ^ 4 = D := (HHI.out k hlt).trans HD.out
          have hd : D < 16 := HD.out ▸ digit_lt 4 N (16 + k)
          have hm := mask_eq (N := hi_) (by omega) (4 * k) 4 (by omega)
          rw [hde] at hm
          have hm' : bits .and .u64 ((hi_ : Int) / 2 ^ (4 * k)) 15 = ((D : Nat) : Int) := hm
          have hfm := fun W' (hW : Below wr.heap.size wr W') => fmt16_any (D) hd W' ((HV.out.below hb (Nat.le_refl _)).below hW (Nat.le_refl _)).tz
          have s0 : IntKind.i64.wrap (4 * (k : Int)) = 4 * (k : Int) := IntWalk.i64_in _ (by omega)
          have s1 : (4 * (k : Int)).toNat = 4 * k := by omega
          have s2 : 4 * (k : Int) < 64 := by omega
          have s3 : (0 : Int) ≤ 4 * (k : Int) := by omega
          have HO := Lib.hid hO
          have HB := Lib.hid hb
          have HX := Lib.hid hx
          clear hO hb hx hm hde
          go_wp2_with fail
          refine (hfm wr (Below.refl _ _)).mono ?_
          rintro e w2 ⟨rfl, hb2⟩
          have HO2 : Hid (w2.ownsRow (w.heap.size + 1) 9 1 sv ((backL true N).take (16 + k)).length (strsC ((backL true N).take (16 + k)))) := Lib.hid (own_below HO.out hb2 (Nat.le_refl _))
          have HB2 := Lib.hid (HB.out.trans (hb2.mono HB.out.size))
          have HX2 := Lib.hid ((hb2.block _ (Array.getElem?_eq_some_iff.1 HX.out).1).trans HX.out)
          have hlen : ((backL true N).take (16 + k)).length = 16 + k := by rw [List.length_take, back_len]; simp; omega
          have HLN := Lib.hid hlen
          have hsz := HB2.out.size
          go_wp2_with (at_builtin; refine wpList_append_own _ rfl (.tmp 39) (.tmp 46) 45 rfl (w.heap.size + 1) 9 i0 (.string ⟨#[]⟩) 1 16 Tryz.underlying45 hi hz0 hz1 hz2 rfl (by decide) _ _ _ rfl (World.ownsRow.alloc HO2.out _) ⟨w2.heap.size, 0, none⟩ 1 1 [.string (toB [hexB (D)])] rfl rfl (cells_new w2 [.string (toB [hexB (D)])] _) (by simp [Value.oneCell']) (by unfold maxLen; first | omega | (simp; omega)) (by first | omega | (simp; omega)) (by first | omega | (simp; omega) | simp) ?_)
          intro v' w4 ho4 hg4 _
          have hlt' := World.ownsRow.lt HO2.out
          have hown : StrsOwn w4 (w.heap.size + 1) v' ((backL true N).take (16 + (k + 1))) := by
            rw [← Nat.add_assoc, back_six_take N (by omega), HD.out]
            unfold StrsOwn
            rw [strs_snoc]
            exact own_as ho4 (by rw [List.length_append, ← HLN.out] <;> simp) (by first | rfl | simp)
          have hbn := (HB2.out.alloc HB2.out.size _).grown hg4 (HB2.out.alloc HB2.out.size _).size (fun j hj => by have := (hlt' j hj).1; omega)
          have hxx := HX2.out
          have hx4 : w4.heap[w.heap.size]? = some (.cells #[.bool true, .int .u64 hi_, .int .u64 lo] 28 (0, 0)) := by
            have hl0 := (Array.getElem?_eq_some_iff.1 hxx).1
            rw [hg4.block _ (by rw [World.alloc]; simp; omega) (by intro e1; have := (hlt' _ e1.symm).1; omega), Below.heap_alloc _ _ _ hl0]
            exact hxx
          have HREL : Hid (BkI w true hi_ lo N (16 + (k + 1)) v' w4) := Lib.hid ⟨v', rfl, hown, hbn, hx4⟩
          clear ho4 hg4 hlt' hown hbn x0 x1 x2 hx4 hxx
          go_wp2_with fail
          go_roundw
          case rel => exact ⟨_, _, _, _, _, _, _, _, _, _, _, _, _, _, _, ⟨k + 1, by omega, by simp, HREL.out⟩, rfl⟩
          case measure => simp [intOf]; omega
        · obtain rfl : k = 16 := by omega
          have HRL2 := Lib.hid (show BkI w true hi_ lo N (16 * (1 + 1)) sv wr from ⟨sv, rfl, hO, hb, hx⟩)
          clear hO hb hx hlt
          go_wp2_with fail
          exact ⟨⟨1 + 1, by omega, by simp, HRL2.out⟩, by simp [intOf]⟩
    · obtain ⟨sv, rfl, hO, hb, hx⟩ := HRL.out
      have hfull : (backL true N).take (16 * 2) = backL true N := List.take_of_length_le (by rw [back_len]; simp)
      rw [hfull] at hO
      obtain ⟨bk, cap, hv, -, hbk, hcap, hcells⟩ := strs_at hO (by rw [back_len]; simp)
      subst hv
      have hlen := back_len true N
      have hsh : (Lib.join (backL true N) [46]).length ≤ 72 := join_short true N
      have hj := Tryz.strings_Join bk 0 cap ((backL true N).map toB) ⟨#[46]⟩ wr hcells hbk (by rw [List.length_map, hlen]; simp) (by rw [List.length_map]; exact hcap) (by rw [toB_map]; simpa using Nat.le_trans hsh (by omega))
      rw [List.length_map, toB_map] at hj
      generalize hJ : Lib.join (backL true N) [46] = J at *
      have HB := Lib.hid hb
      clear hO hb hx
      go_wp2_with fail
      refine hj.mono ?_
      rintro e w2 ⟨rfl, hb2⟩
      go_wp2_with fail
      have hres : (⟨J.toArray⟩ : ByteArray) ++ ⟨#[46, 105, 112, 54, 46, 97, 114, 112, 97]⟩ = toB (backB true N) := by
        unfold backB
        rw [hJ]
        rw [ByteArray.mk_append_mk]
        simp [toB, tailB]
      rw [hres]
      refine bodyPost_ret (v := .string (toB (backB true N))) (by simp [results, Tryz.results11, go_sem]) rfl ⟨rfl, HB.out.trans (hb2.mono HB.out.size)⟩
end Go.Proofs.YtompamkhjikjlaaGreatDoor
