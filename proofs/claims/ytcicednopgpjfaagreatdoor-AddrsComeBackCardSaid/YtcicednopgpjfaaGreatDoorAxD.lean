/- addr.textOf. -/
import Derived.Test.YtcicednopgpjfaaGreatDoorAxC
import Derived.Test.YtcicednopgpjfaaGreatDoorRgE
import Derived.Test.YtcicednopgpjfaaGreatDoorSrt
import Derived.Deep.CutRange
namespace Go.Proofs.YtcicednopgpjfaaGreatDoor
open Go.RowKit Go.Hw Go.Shelf

theorem own_below {w w' : World} {base B : Nat} {e : TypeId} {size : Nat} {v : Value} {n : Nat} {xs : List Value} (h : w.ownsRow base e size v n xs) (hb : Below B w w') (hB : w.heap.size ≤ B) : w'.ownsRow base e size v n xs := by
  obtain ⟨h1, h2 | ⟨g, cap, cur, h3, h4, h5, h6⟩⟩ := h
  · exact ⟨h1, .inl h2⟩
  · have := (Array.getElem?_eq_some_iff.1 h5).1
    exact ⟨h1, .inr ⟨g, cap, cur, h3, h4, (hb.block g (by omega)).trans h5, h6⟩⟩
def strsC (xs : List (List UInt8)) : List Value := xs.map fun x => .string (toB x)
theorem strs_snoc (xs : List (List UInt8)) (x : List UInt8) : strsC (xs ++ [x]) = strsC xs ++ [.string (toB x)] := by simp [strsC]
theorem own_as {w : World} {base : Nat} {e : TypeId} {size : Nat} {v : Value} {n m : Nat} {xs ys : List Value} (h : w.ownsRow base e size v n xs) (hn : n = m) (hx : xs = ys) : w.ownsRow base e size v m ys := by
  subst hn; subst hx; exact h
theorem infoString : (Tryz.prog.info? 9).map (fun i => (i.zero, i.size, i.bytes)) = some (some (.string ⟨#[]⟩), 1, 16) := by kernel_rfl
def StrsOwn (w : World) (base : Nat) (v : Value) (xs : List (List UInt8)) : Prop := w.ownsRow base 9 1 v xs.length (strsC xs)
theorem toB_map (xs : List (List UInt8)) : (xs.map toB).map (·.data.toList) = xs := by
  rw [List.map_map]
  exact (List.map_congr_left (fun x _ => rfl)).trans (List.map_id _)
theorem strs_at {w : World} {base : Nat} {v : Value} {xs : List (List UInt8)} (h : StrsOwn w base v xs) (h0 : 0 < xs.length) :
    ∃ bk cap, v = .slice (some ⟨bk, 0, none⟩) xs.length cap ∧ base ≤ bk ∧ bk < w.heap.size ∧ xs.length ≤ cap ∧ ∀ (j : Nat) x, xs[j]? = some x → w.cell? ⟨bk, 0 + j, none⟩ = some (.string (toB x)) := by
  obtain ⟨A, cap, rfl, hr⟩ := own_reads h
  obtain ⟨h1, ⟨h2, h3⟩ | ⟨g, cap', cur, h3, h4, h5, h6, -⟩⟩ := h
  · omega
  · simp only [Value.slice.injEq, true_and] at h3
    obtain ⟨rfl, rfl⟩ := h3
    refine ⟨g, cap, rfl, h4, (Array.getElem?_eq_some_iff.1 h5).1, h6, ?_⟩
    intro j y hy
    obtain ⟨g', e1, -, e2⟩ := hr j (.string (toB y)) (by simp [strsC, hy])
    cases e1
    rw [Nat.zero_add]
    exact e2
/-- strings.Join of strings that lie somewhere. -/
theorem join_any (A : Option Addr) (c : Nat) (xs : List (List UInt8)) (b : UInt8) (w : World) (h : ∀ (j : Nat) x, xs[j]? = some x → ∃ g off, A = some ⟨g, off, none⟩ ∧ g < w.heap.size ∧ w.cell? ⟨g, off + j, none⟩ = some (.string (toB x))) (hc : xs.length ≤ c) (hn : xs.length ≤ 1000) (hl : (Lib.join xs [b]).length ≤ 100000) :
    Calls Tryz.prog 38 #[.slice A xs.length c, .string ⟨#[b]⟩] w fun e w' => e = .returned (.string (toB (Lib.join xs [b]))) ∧ Below w.heap.size w w' := by
  rcases xs with _ | ⟨x, r⟩
  · exact (Tryz.strings_Join_none A c ⟨#[b]⟩ w).mono fun e w' ⟨h1, h2⟩ => ⟨h1, h2 ▸ Below.refl _ _⟩
  · obtain ⟨g, off, rfl, hg, -⟩ := h 0 x rfl
    have hj := Tryz.strings_Join g off c ((x :: r).map toB) ⟨#[b]⟩ w (fun j y hy => by
      rw [List.getElem?_map] at hy
      obtain ⟨z, hz, rfl⟩ := Option.map_eq_some_iff.1 hy
      obtain ⟨g', off', e, _, hc⟩ := h j z hz
      injection e with e
      simp only [Addr.mk.injEq, and_true] at e
      obtain ⟨rfl, rfl⟩ := e
      exact hc) hg (by rw [List.length_map]; omega) (by rw [List.length_map]; exact hc) (by rw [toB_map]; simpa using Nat.le_trans hl (by omega))
    rw [List.length_map, toB_map] at hj
    exact hj
theorem toB_app (x y : List UInt8) : toB x ++ toB y = toB (x ++ y) := by
  unfold toB
  rw [ByteArray.mk_append_mk]
theorem toB_dd : (⟨#[58, 58]⟩ : ByteArray) = toB [58, 58] := rfl
theorem toB_app2 (x y : List UInt8) : toB (x ++ y) = toB x ++ toB y := (toB_app x y).symm
def fourL (lo : Nat) : List (List UInt8) := (List.range 4).map (fun i => Lib.decDigits (lo / 2 ^ (24 - 8 * i) % 256))
def sixG (hi lo : Nat) : List Nat := (List.range 8).map (gN hi lo)
theorem g8_six (hi lo : Nat) : g8 (sixG hi lo) = gArr hi lo := rfl
/-- The text of an address. -/
def textA (six : Bool) (hi lo : Nat) : List UInt8 := if six then textG (sixG hi lo) else Lib.join (fourL lo) [46]
theorem four_take (lo : Nat) {k : Nat} (hk : k < 4) : (fourL lo).take (k + 1) = (fourL lo).take k ++ [Lib.decDigits (lo / 2 ^ (24 - 8 * k) % 256)] := by
  rw [List.take_succ_eq_append_getElem (by simp [fourL]; exact hk)]
  simp [fourL]
theorem six_take (hi lo : Nat) {k : Nat} (hk : k < 8) : ((sixG hi lo).map hexL).take (k + 1) = ((sixG hi lo).map hexL).take k ++ [hexL (gN hi lo k)] := by
  rw [List.take_succ_eq_append_getElem (by simp [sixG]; exact hk)]
  simp [sixG]
theorem four_len (lo : Nat) : (fourL lo).length = 4 := by simp [fourL]
theorem six_len (hi lo : Nat) : ((sixG hi lo).map hexL).length = 8 := by simp [sixG]
theorem gN_lt (hi lo i : Nat) : gN hi lo i < 65536 := by
  unfold gN
  split <;> exact Nat.mod_lt _ (by decide)
theorem join_le (b : UInt8) (m : Nat) : ∀ (xs : List (List UInt8)), (∀ x ∈ xs, x.length ≤ m) → (Lib.join xs [b]).length ≤ (m + 1) * xs.length
  | [], _ => by simp [Lib.join]
  | x :: r, h => by
    rw [Lib.join_cons]
    have : ∀ r : List (List UInt8), (∀ x ∈ r, x.length ≤ m) → (Lib.joinTail [b] r).length ≤ (m + 1) * r.length := fun r => by
      induction r with
      | nil => intro _; simp [Lib.joinTail]
      | cons y r ih =>
        intro h
        rw [joinTail_cons]
        have h1 := h y (by simp)
        have h2 := ih (fun z hz => h z (List.mem_cons_of_mem _ hz))
        simp only [List.length_cons, List.length_append, Nat.mul_succ]
        omega
    have h1 := h x (by simp)
    have h2 := this r (fun z hz => h z (List.mem_cons_of_mem _ hz))
    simp only [List.length_append, List.length_cons, Nat.mul_succ]
    omega
theorem four_words (lo : Nat) : ∀ x ∈ fourL lo, x.length ≤ 3 := fun x hx => by
  obtain ⟨i, _, rfl⟩ := List.mem_map.1 hx
  exact (dec_small ⟨lo / 2 ^ (24 - 8 * i) % 256, Nat.mod_lt _ (by decide)⟩).2.1
theorem six_words (hi lo : Nat) : ∀ x ∈ (sixG hi lo).map hexL, x.length ≤ 4 := fun x hx => by
  obtain ⟨i, _, rfl⟩ := List.mem_map.1 hx
  exact (hexL_len i).2
/-- What the loops have laid so far. -/
def TxI (w : World) (o : Obj) (xs : List (List UInt8)) (B base n : Nat) (v : Value) (wr : World) : Prop :=
  ∃ sv, sv = v ∧ StrsOwn wr base sv (xs.take n) ∧ Below w.heap.size w wr ∧ wr.heap[B]? = some o
/-- One more word is laid. -/
theorem tx_next {w w2 w4 : World} {o p : Obj} {xs : List (List UInt8)} {x : List UInt8} {B base n : Nat} {sv v' : Value} (hB : B < base) (hw : w.heap.size ≤ base) (ho : StrsOwn w2 base sv (xs.take n)) (hb : Below w.heap.size w w2) (hx : w2.heap[B]? = some o) (ht : xs.take (n + 1) = xs.take n ++ [x])
    {m : Nat} (hm : m = (xs.take n).length) (ho4 : w4.ownsRow base 9 1 v' (m + 1) (strsC (xs.take n) ++ [.string (toB x)])) (hg4 : (w2.alloc p).grownBy w4 sv.ownBlock) : TxI w o xs B base (n + 1) v' w4 := by
  have hlt' := World.ownsRow.lt ho
  refine ⟨v', rfl, ?_, (hb.alloc hb.size _).grown hg4 (hb.alloc hb.size _).size (fun j hj => by have := (hlt' j hj).1; omega), ?_⟩
  · rw [ht]
    unfold StrsOwn
    rw [strs_snoc]
    exact own_as ho4 (by rw [hm, List.length_append]; rfl) rfl
  · have hl0 := (Array.getElem?_eq_some_iff.1 hx).1
    rw [hg4.block _ (by rw [World.alloc]; simp; omega) (by intro e1; have := (hlt' _ e1.symm).1; omega), Below.heap_alloc _ _ _ hl0]
    exact hx
theorem mask8 {N : Nat} (hN : N < 18446744073709551616) (s : Nat) : bits .and .u64 ((N : Int) / 2 ^ s) 255 = ((N / 2 ^ s % 256 : Nat) : Int) := by
  have h3 : N / 2 ^ s ≤ N := Nat.div_le_self _ _
  have e1 : (N : Int) / 2 ^ s = ((N / 2 ^ s : Nat) : Int) := by simp
  rw [e1]
  generalize N / 2 ^ s = q at *
  have := u64_and_nat q 255 (by omega) (by omega)
  rw [show q &&& 255 = q % 256 from Nat.and_two_pow_sub_one_eq_mod q 8] at this
  exact this
set_option maxRecDepth 100000 in
set_option maxHeartbeats 4000000 in
theorem text_four (hi lo : Nat) (hl : lo < 4294967296) (w : World) (V : NmVars w) :
    Calls Tryz.prog 18 #[.agg #[.bool false, .int .u64 hi, .int .u64 lo]] w fun e w' => e = .returned (.string (toB (textA false hi lo))) ∧ Below w.heap.size w w' := by
  obtain ⟨i0, hi0, hz0, hz1, hz2⟩ := info_parts infoString
  have hB : Below w.heap.size w (w.alloc (.cells #[.bool false, .int .u64 hi, .int .u64 lo] 28)) := (Below.refl _ _).alloc (Nat.le_refl _) _
  have hx := heap_alloc_new w (.cells #[.bool false, .int .u64 hi, .int .u64 lo] 28)
  have HV := Lib.hid V
  have hn0 : TxI w (.cells #[.bool false, .int .u64 hi, .int .u64 lo] 28) (fourL lo) w.heap.size (w.heap.size + 1) 0 (.slice none 0 0) (w.alloc (.cells #[.bool false, .int .u64 hi, .int .u64 lo] 28)) := ⟨_, rfl, World.ownsRow_nil _ _ _ _, hB, hx⟩
  obtain ⟨x0, x1, x2, -⟩ := res3 hx
  have HN0 := Lib.hid hn0
  clear hB hx V hn0
  go_enter Tryz.func18, Tryz.ntmps18
  go_wp2_with fail
  generalize World.alloc w _ = W at *
  clear x0 x1 x2
  go_loopw [3, 14] (fun v3 v14 wr => ∃ k : Nat, k ≤ 4 ∧ v14 = .int .i64 k ∧ TxI w (.cells #[.bool false, .int .u64 hi, .int .u64 lo] 28) (fourL lo) w.heap.size (w.heap.size + 1) k v3 wr) (fun _ v14 _ => 4 - (intOf v14).toNat)
  case atStart => exact ⟨0, by omega, rfl, HN0.out⟩
  case round =>
    obtain ⟨k, hk, rfl, sv, rfl, hO, hb, hx⟩ := hrel
    by_cases hlt : k < 4
    · obtain ⟨x0, x1, x2, -⟩ := res3 hx
      obtain ⟨D, HD⟩ : ∃ D, Hid (lo / 2 ^ (24 - 8 * k) % 256 = D) := ⟨_, Lib.hid rfl⟩
      have hd : D < 256 := HD.out ▸ Nat.mod_lt _ (by decide)
      have hm : bits .and .u64 ((lo : Int) / 2 ^ (24 - 8 * k)) 255 = ((D : Nat) : Int) := by rw [← HD.out]; exact mask8 (by omega) _
      have hfm := fun W' (hW : Below wr.heap.size wr W') => fmt10_any D hd W' ((HV.out.below hb (Nat.le_refl _)).below hW (Nat.le_refl _)).tab
      have s0 : IntKind.i64.wrap (8 * (k : Int)) = 8 * (k : Int) := IntWalk.i64_in _ (by omega)
      have s4 : IntKind.i64.wrap (24 - 8 * (k : Int)) = 24 - 8 * (k : Int) := IntWalk.i64_in _ (by omega)
      have s1 : (24 - 8 * (k : Int)).toNat = 24 - 8 * k := by omega
      have s2 : 24 - 8 * (k : Int) < 64 := by omega
      have s3 : (0 : Int) ≤ 24 - 8 * (k : Int) := by omega
      have s5 : 8 * (k : Int) ≤ 24 := by omega
      have HO := Lib.hid hO
      have HB := Lib.hid hb
      have HX := Lib.hid hx
      clear hO hb hx
      go_wp2_with fail
      refine (hfm wr (Below.refl _ _)).mono ?_
      rintro e w2 ⟨rfl, hb2⟩
      have HO2 : Hid (w2.ownsRow (w.heap.size + 1) 9 1 sv ((fourL lo).take k).length (strsC ((fourL lo).take k))) := Lib.hid (own_below HO.out hb2 (Nat.le_refl _))
      have HB2 := Lib.hid (HB.out.trans (hb2.mono HB.out.size))
      have HX2 := Lib.hid ((hb2.block _ (Array.getElem?_eq_some_iff.1 HX.out).1).trans HX.out)
      have hlen : ((fourL lo).take k).length = k := by rw [List.length_take, four_len]; omega
      have hsz := HB2.out.size
      have hsz2 := (Array.getElem?_eq_some_iff.1 HX2.out).1
      go_wp2_with (at_builtin; refine wpList_append_own _ rfl (.tmp 17) (.tmp 26) 79 rfl (w.heap.size + 1) 9 i0 (.string ⟨#[]⟩) 1 16 Tryz.underlying79 hi0 hz0 hz1 hz2 rfl (by decide) _ _ _ rfl (World.ownsRow.alloc HO2.out _) ⟨w2.heap.size, 0, none⟩ 1 1 [.string (toB (Lib.decDigits D))] rfl rfl (cells_new w2 [.string (toB (Lib.decDigits D))] _) (by simp [Value.oneCell']) (by unfold maxLen; first | omega | (simp; omega)) (by first | omega | (simp; omega)) (by first | omega | (simp; omega) | simp) ?_)
      intro v' w4 ho4 hg4 _
      have HREL := Lib.hid (tx_next (by omega) (by omega) HO2.out HB2.out HX2.out (by rw [four_take lo hlt, HD.out]) hlen.symm ho4 hg4)
      clear ho4 hg4 x0 x1 x2 hlen
      go_wp2_with fail
      exact ⟨⟨k + 1, by omega, by simp, HREL.out⟩, by simp [intOf]; omega⟩
    · obtain rfl : k = 4 := by omega
      clear hlt
      have HB := Lib.hid hb
      rw [List.take_of_length_le (by rw [four_len]; omega)] at hO
      obtain ⟨bk, cap, hv, -, hbk, hcap, hcells⟩ := strs_at hO (by rw [four_len]; omega)
      subst hv
      have hj := join_any (some ⟨bk, 0, none⟩) cap (fourL lo) 46 wr (fun j x hx => ⟨bk, 0, rfl, hbk, hcells j x hx⟩) hcap (by rw [four_len]; omega) (Nat.le_trans (join_le 46 3 _ (four_words lo)) (by rw [four_len]; omega))
      rw [four_len] at hj ⊢
      clear hO hb hx hcells hcap
      go_wp2_with fail
      refine hj.mono ?_
      rintro e w2 ⟨rfl, hb2⟩
      have HF := Lib.hid (HB.out.trans (hb2.mono HB.out.size))
      clear hj hb2
      go_wp2_with fail
      go_ret
      exact ⟨rfl, HF.out⟩
theorem idx8 (hi lo : Nat) (k : Nat) (hk : k < 8) (W : World) : (Instr.index 58 (.agg #[.int .u64 (gN hi lo 0), .int .u64 (gN hi lo 1), .int .u64 (gN hi lo 2), .int .u64 (gN hi lo 3), .int .u64 (gN hi lo 4), .int .u64 (gN hi lo 5), .int .u64 (gN hi lo 6), .int .u64 (gN hi lo 7)]) (.int .i64 k)).run Tryz.prog W = .ok (.int .u64 (gN hi lo k)) W := by
  have h : Tryz.prog.underlying 58 = some (.array 8 26) := by kernel_rfl
  have hc : k = 0 ∨ k = 1 ∨ k = 2 ∨ k = 3 ∨ k = 4 ∨ k = 5 ∨ k = 6 ∨ k = 7 := by omega
  rcases hc with rfl | rfl | rfl | rfl | rfl | rfl | rfl | rfl <;> simp [Instr.index, run_underlying h, asIntOf, go_sem]
set_option maxRecDepth 100000 in
set_option maxHeartbeats 4000000 in
theorem text_six (hi lo : Nat) (hh : hi < 18446744073709551616) (hl : lo < 18446744073709551616) (w : World) (V : NmVars w) :
    Calls Tryz.prog 18 #[.agg #[.bool true, .int .u64 hi, .int .u64 lo]] w fun e w' => e = .returned (.string (toB (textA true hi lo))) ∧ Below w.heap.size w w' := by
  obtain ⟨i0, hi0, hz0, hz1, hz2⟩ := info_parts infoString
  have hB : Below w.heap.size w (w.alloc (.cells #[.bool true, .int .u64 hi, .int .u64 lo] 28)) := (Below.refl _ _).alloc (Nat.le_refl _) _
  have hx := heap_alloc_new w (.cells #[.bool true, .int .u64 hi, .int .u64 lo] 28)
  have HV := Lib.hid V
  have HB0 := Lib.hid hB
  obtain ⟨x0, x1, x2, -⟩ := res3 hx
  have hgr := fun W => groupsOf_any true hi lo hh hl W
  unfold gArr at hgr
  have HL := Lib.hid (And.intro hh hl)
  clear hB hx V hh hl
  go_enter Tryz.func18, Tryz.ntmps18
  go_wp2_with fail
  generalize World.alloc w _ = W at *
  clear x0 x1 x2
  refine (hgr W).mono ?_
  rintro e W1 ⟨rfl, hb1⟩
  have HB1 := Lib.hid (HB0.out.trans (hb1.mono HB0.out.size))
  clear hgr hb1
  have hx5 := heap_alloc_new W1 (.cells #[.int .u64 (gN hi lo 0), .int .u64 (gN hi lo 1), .int .u64 (gN hi lo 2), .int .u64 (gN hi lo 3), .int .u64 (gN hi lo 4), .int .u64 (gN hi lo 5), .int .u64 (gN hi lo 6), .int .u64 (gN hi lo 7)] 58)
  have hn0 : TxI w (.cells #[.int .u64 (gN hi lo 0), .int .u64 (gN hi lo 1), .int .u64 (gN hi lo 2), .int .u64 (gN hi lo 3), .int .u64 (gN hi lo 4), .int .u64 (gN hi lo 5), .int .u64 (gN hi lo 6), .int .u64 (gN hi lo 7)] 58) ((sixG hi lo).map hexL) W1.heap.size (W1.heap.size + 1) 0 (.slice none 0 0) (W1.alloc (.cells #[.int .u64 (gN hi lo 0), .int .u64 (gN hi lo 1), .int .u64 (gN hi lo 2), .int .u64 (gN hi lo 3), .int .u64 (gN hi lo 4), .int .u64 (gN hi lo 5), .int .u64 (gN hi lo 6), .int .u64 (gN hi lo 7)] 58)) := ⟨_, rfl, World.ownsRow_nil _ _ _ _, HB1.out.alloc HB1.out.size _, hx5⟩
  have HN0 := Lib.hid hn0
  have hwB := HB1.out.size
  clear hx5 hn0
  go_wp2_with fail
  generalize World.alloc W1 _ = W2 at *
  generalize W1.heap.size = B at *
  go_loopw [6, 8, 34] (fun v6 _ v34 wr => ∃ k : Nat, k ≤ 8 ∧ v34 = .int .i64 k ∧ TxI w (.cells #[.int .u64 (gN hi lo 0), .int .u64 (gN hi lo 1), .int .u64 (gN hi lo 2), .int .u64 (gN hi lo 3), .int .u64 (gN hi lo 4), .int .u64 (gN hi lo 5), .int .u64 (gN hi lo 6), .int .u64 (gN hi lo 7)] 58) ((sixG hi lo).map hexL) B (B + 1) k v6 wr) (fun _ _ v34 _ => 8 - (intOf v34).toNat)
  case atStart => exact ⟨0, by omega, rfl, HN0.out⟩
  case round =>
    obtain ⟨k, hk, rfl, sv, rfl, hO, hb, hx⟩ := hrel
    by_cases hlt : k < 8
    · have hd := gN_lt hi lo k
      have hix := idx8 hi lo k hlt
      have HST := Lib.hid (six_take hi lo hlt)
      have hfm := fun W' (hW : Below wr.heap.size wr W') => fmt16_4 (gN hi lo k) hd W' ((HV.out.below hb (Nat.le_refl _)).below hW (Nat.le_refl _)).tz
      generalize gN hi lo k = D at hd hix HST hfm
      have HO := Lib.hid hO
      have HB := Lib.hid hb
      have HX := Lib.hid hx
      clear hO hb hx
      go_wp2_with fail
      refine (hfm wr (Below.refl _ _)).mono ?_
      rintro e w2 ⟨rfl, hb2⟩
      have HO2 : Hid (w2.ownsRow (B + 1) 9 1 sv (((sixG hi lo).map hexL).take k).length (strsC (((sixG hi lo).map hexL).take k))) := Lib.hid (own_below HO.out hb2 (Nat.le_refl _))
      have HB2 := Lib.hid (HB.out.trans (hb2.mono HB.out.size))
      have HX2 := Lib.hid ((hb2.block _ (Array.getElem?_eq_some_iff.1 HX.out).1).trans HX.out)
      have hlen : (((sixG hi lo).map hexL).take k).length = k := by rw [List.length_take, six_len]; omega
      have hsz := HB2.out.size
      have hsz2 := (Array.getElem?_eq_some_iff.1 HX2.out).1
      clear hix hfm
      go_wp2_with (at_builtin; refine wpList_append_own _ rfl (.tmp 37) (.tmp 40) 79 rfl (B + 1) 9 i0 (.string ⟨#[]⟩) 1 16 Tryz.underlying79 hi0 hz0 hz1 hz2 rfl (by decide) _ _ _ rfl (World.ownsRow.alloc HO2.out _) ⟨w2.heap.size, 0, none⟩ 1 1 [.string (toB (hexL D))] rfl rfl (cells_new w2 [.string (toB (hexL D))] _) (by simp [Value.oneCell']) (by unfold maxLen; first | omega | (simp; omega)) (by first | omega | (simp; omega)) (by first | omega | (simp; omega) | simp) ?_)
      intro v' w4 ho4 hg4 _
      have HREL := Lib.hid (tx_next (by omega) (by omega) HO2.out HB2.out HX2.out HST.out hlen.symm ho4 hg4)
      clear ho4 hg4 hlen
      go_wp2_with fail
      exact ⟨⟨k + 1, by omega, by simp, HREL.out⟩, by simp [intOf]; omega⟩
    · obtain rfl : k = 8 := by omega
      clear hlt
      have HB := Lib.hid hb
      rw [List.take_of_length_le (by rw [six_len]; omega)] at hO
      obtain ⟨bk, cap, hv, -, hbk, hcap, hcells⟩ := strs_at hO (by rw [six_len]; omega)
      subst hv
      have hw := six_words hi lo
      have hz := zeros_any (sixG hi lo) (by simp [sixG]) wr
      rw [g8_six] at hz
      unfold gArr at hz
      obtain ⟨f, m, hfm⟩ : ∃ f m, zeroF (sixG hi lo) = (f, m) := ⟨_, _, rfl⟩
      have hfe : f + m ≤ 8 := by have := (zeroF_all (sixG hi lo)).1; rw [hfm] at this; simpa [sixG] using this
      have HT : Hid (textA true hi lo = if m < 2 then Lib.join ((sixG hi lo).map hexL) [58] else Lib.join (((sixG hi lo).map hexL).take f) [58] ++ [58, 58] ++ Lib.join (((sixG hi lo).map hexL).drop (f + m)) [58]) := Lib.hid (by unfold textA textG; rw [hfm]; rfl)
      rw [hfm] at hz
      obtain ⟨c0, c1, c2, c3, c4, c5, c6, c7⟩ := (res8 hx).1
      rw [six_len] at hcap ⊢
      have hxl := six_len hi lo
      generalize (sixG hi lo).map hexL = xs at *
      have HCL := Lib.hid hcells
      clear hO hb hx hfm hcells
      go_wp2_with fail
      refine hz.mono ?_
      rintro e W6 ⟨rfl, hb6⟩
      have HB6 := Lib.hid (HB.out.trans (hb6.mono HB.out.size))
      have hbk6 : bk < W6.heap.size := Nat.lt_of_lt_of_le hbk hb6.size
      have HC6 : Hid (∀ (j : Nat) x, xs[j]? = some x → W6.cell? ⟨bk, 0 + j, none⟩ = some (.string (toB x))) := Lib.hid (fun j x hj => (hb6.cell (p := ⟨bk, 0 + j, none⟩) hbk).trans (HCL.out j x hj))
      have HW := Lib.hid hw
      have HXL := Lib.hid hxl
      clear hz hb6 c0 c1 c2 c3 c4 c5 c6 c7 hw hxl
      by_cases hm2 : m < 2
      · have d1 : decide ((m : Int) < 2) = true := by simp; omega
        have hj := join_any (some ⟨bk, 0, none⟩) cap xs 58 W6 (fun j x hx => ⟨bk, 0, rfl, hbk6, HC6.out j x hx⟩) (by rw [HXL.out]; exact hcap) (by rw [HXL.out]; omega) (Nat.le_trans (join_le 58 4 _ HW.out) (by rw [HXL.out]; omega))
        rw [HXL.out] at hj
        have HTT := Lib.hid (HT.out.trans (if_pos hm2))
        clear hm2 HT
        go_wp2_with fail
        refine hj.mono ?_
        rintro e W7 ⟨rfl, hb7⟩
        have HF := Lib.hid (HB6.out.trans (hb7.mono HB6.out.size))
        clear hj hb7
        go_wp2_with fail
        go_ret
        exact ⟨by rw [HTT.out]; rfl, HF.out⟩
      · have d1 : decide ((m : Int) < 2) = false := by simp; omega
        have HTT := Lib.hid (HT.out.trans (if_neg hm2))
        have s1 : IntKind.i64.wrap ((f : Int) + (m : Int)) = (f : Int) + (m : Int) := IntWalk.i64_in _ (by omega)
        clear HT
        go_upto_region 19 with (fail)
        -- REGION19
        have t1 : ((f : Int) + (m : Int)).toNat = f + m := by omega
        have t2 : (0 : Int) ≤ (f : Int) + (m : Int) := by omega
        have t3 : (f : Int) + (m : Int) ≤ 8 := by omega
        have t4 : f ≤ cap := by omega
        have t5 : f ≤ 8 := by omega
        have t6 : (f : Int) ≤ (cap : Int) := by omega
        have t7 : f + m ≤ cap := by omega
        have l1 : (xs.take f).length = f := by rw [List.length_take, HXL.out]; omega
        have l2 : (xs.drop (f + m)).length = 8 - (f + m) := by rw [List.length_drop, HXL.out]
        obtain ⟨J1, hJ1⟩ : ∃ J1, Lib.join (xs.take f) [58] = J1 := ⟨_, rfl⟩
        obtain ⟨J2, hJ2⟩ : ∃ J2, Lib.join (xs.drop (f + m)) [58] = J2 := ⟨_, rfl⟩
        have HJ1 : Hid (∀ W7, Below W6.heap.size W6 W7 → Calls Tryz.prog 38 #[.slice (some ⟨bk, 0, none⟩) f cap, .string ⟨#[58]⟩] W7 fun e w' => e = .returned (.string (toB J1)) ∧ Below W7.heap.size W7 w') := Lib.hid (fun W7 hb => by
          have h := join_any (some ⟨bk, 0, none⟩) cap (xs.take f) 58 W7 (fun j x hx => ⟨bk, 0, rfl, Nat.lt_of_lt_of_le hbk6 hb.size, (hb.cell (p := ⟨bk, 0 + j, none⟩) hbk6).trans (HC6.out j x (by rw [List.getElem?_take] at hx; split at hx <;> first | exact hx | cases hx))⟩) (by rw [l1]; exact t4) (by rw [l1]; omega) (Nat.le_trans (join_le 58 4 _ (fun x hx => HW.out x (List.mem_of_mem_take hx))) (by rw [l1]; omega))
          rw [l1, hJ1] at h
          exact h)
        have HJ2 : Hid (∀ (off : Nat) (c : Nat), (8 - (f + m) = 0 ∨ off = f + m) → 8 - (f + m) ≤ c → ∀ W7, Below W6.heap.size W6 W7 → Calls Tryz.prog 38 #[.slice (some ⟨bk, off, none⟩) (8 - (f + m)) c, .string ⟨#[58]⟩] W7 fun e w' => e = .returned (.string (toB J2)) ∧ Below W7.heap.size W7 w') := Lib.hid (fun off c ho hc W7 hb => by
          have h := join_any (some ⟨bk, off, none⟩) c (xs.drop (f + m)) 58 W7 (fun j x hx => ⟨bk, off, rfl, Nat.lt_of_lt_of_le hbk6 hb.size, by
            have hj : j < (xs.drop (f + m)).length := (List.getElem?_eq_some_iff.1 hx).1
            rw [l2] at hj
            have ho' : off = f + m := by omega
            subst ho'
            have := (hb.cell (p := ⟨bk, 0 + (f + m + j), none⟩) hbk6).trans (HC6.out (f + m + j) x (by rw [List.getElem?_drop] at hx; exact hx))
            rw [Nat.zero_add] at this
            exact this⟩) (by rw [l2]; exact hc) (by rw [l2]; omega) (Nat.le_trans (join_le 58 4 _ (fun x hx => HW.out x (List.mem_of_mem_drop hx))) (by rw [l2]; omega))
          rw [l2, hJ2] at h
          exact h)
        rw [hJ1, hJ2] at HTT
        have z1 : (toB J1).size ≤ 1000 := by
          have := join_le 58 4 _ (fun x hx => HW.out x (List.mem_of_mem_take (i := f) hx))
          rw [hJ1, l1] at this
          show J1.toArray.size ≤ 1000
          simp
          omega
        have z2 : (toB J2).size ≤ 1000 := by
          have := join_le 58 4 _ (fun x hx => HW.out x (List.mem_of_mem_drop (i := f + m) hx))
          rw [hJ2, l2] at this
          show J2.toArray.size ≤ 1000
          simp
          omega
        have z3 : (toB (J1 ++ [58, 58])).size ≤ 1002 := by
          have : J1.toArray.size ≤ 1000 := z1
          show (J1 ++ [58, 58]).toArray.size ≤ 1002
          simp at this ⊢
          omega
        have y1 : ¬ 9223372036854775807 < (toB J1).size + 2 := by omega
        have y2 : ¬ 9223372036854775807 < (toB (J1 ++ [58, 58])).size + (toB J2).size := by omega
        have HQ1 : Hid (toB J1 ++ ⟨#[58, 58]⟩ = toB (J1 ++ [58, 58])) := Lib.hid (toB_app J1 [58, 58])
        have HQ2 : Hid (toB (J1 ++ [58, 58]) ++ toB J2 = toB (J1 ++ 58 :: 58 :: J2)) := Lib.hid (by rw [toB_app]; simp)
        clear l1 l2 hJ1 hJ2
        go_cut [2] from 52 to 63 (fun v2 wc => v2 = .string (toB (J1 ++ [58, 58] ++ J2)) ∧ Below W6.heap.size W6 wc)
        case first =>
          by_cases hcs : cap = f + m
          · have hs8 : f + m = 8 := by omega
            have HJ2 : Hid (∀ W7, Below W6.heap.size W6 W7 → Calls Tryz.prog 38 #[.slice (some ⟨bk, 0, none⟩) 0 0, .string ⟨#[58]⟩] W7 fun e w' => e = .returned (.string (toB J2)) ∧ Below W7.heap.size W7 w') := Lib.hid (by
              have h := HJ2.out 0 0 (.inl (by omega)) (by omega)
              rw [show 8 - (f + m) = 0 by omega] at h
              exact h)
            have u1 : ((f : Int) + (m : Int)).toNat = 8 := by omega
            obtain rfl : cap = 8 := by omega
            have t8 : (f : Int) ≤ 8 := by omega
            clear t1 t7 hcs hs8 hfe hcap t4 t6
            refine wp_region_exact 12 (fun f' => ⟨#[.agg #[Value.bool true, Value.int IntKind.u64 ↑hi, Value.int IntKind.u64 ↑lo], .pointer (some ⟨w.heap.size, 0, none⟩), .string { data := #[] }, undef, undef, .pointer (some ⟨B, 0, none⟩), .slice (some ⟨bk, 0, none⟩) 8 8, undef, u8, .int .i64 f, .int .i64 m, .pointer (some ⟨w.heap.size, 0, none⟩), .bool true, .bool false, undef, undef, undef, undef, undef, undef, undef, undef, undef, undef, undef, undef, undef, undef, undef, undef, undef, .agg #[Value.bool true, Value.int IntKind.u64 ↑hi, Value.int IntKind.u64 ↑lo], .agg #[Value.int IntKind.u64 ↑(gN hi lo 0), Value.int IntKind.u64 ↑(gN hi lo 1), Value.int IntKind.u64 ↑(gN hi lo 2), Value.int IntKind.u64 ↑(gN hi lo 3), Value.int IntKind.u64 ↑(gN hi lo 4), Value.int IntKind.u64 ↑(gN hi lo 5), Value.int IntKind.u64 ↑(gN hi lo 6), Value.int IntKind.u64 ↑(gN hi lo 7)], .agg #[Value.int IntKind.u64 ↑(gN hi lo 0), Value.int IntKind.u64 ↑(gN hi lo 1), Value.int IntKind.u64 ↑(gN hi lo 2), Value.int IntKind.u64 ↑(gN hi lo 3), Value.int IntKind.u64 ↑(gN hi lo 4), Value.int IntKind.u64 ↑(gN hi lo 5), Value.int IntKind.u64 ↑(gN hi lo 6), Value.int IntKind.u64 ↑(gN hi lo 7)], .int .i64 8, .bool false, u36, u37, u38, u39, u40, u41, u42, .tuple #[Value.int IntKind.i64 ↑f, Value.int IntKind.i64 ↑m], .agg #[Value.int IntKind.u64 ↑(gN hi lo 0), Value.int IntKind.u64 ↑(gN hi lo 1), Value.int IntKind.u64 ↑(gN hi lo 2), Value.int IntKind.u64 ↑(gN hi lo 3), Value.int IntKind.u64 ↑(gN hi lo 4), Value.int IntKind.u64 ↑(gN hi lo 5), Value.int IntKind.u64 ↑(gN hi lo 6), Value.int IntKind.u64 ↑(gN hi lo 7)], .tuple #[Value.int IntKind.i64 ↑f, Value.int IntKind.i64 ↑m], .int .i64 f, .int .i64 m, .int .i64 m, .bool false, undef, undef, f' 0, f' 1, f' 2, f' 3, f' 4, f' 5, f' 6, f' 7, f' 8, f' 9, f' 10, f' 11], []⟩) (fun i => match i with | 0 => .slice (some ⟨bk, 0, none⟩) 8 8 | 1 => .int .i64 (f : Int) | 2 => .slice (some ⟨bk, 0, none⟩) f 8 | 3 => .string (toB J1) | 4 => .string (toB (J1 ++ [58, 58])) | 5 => .slice (some ⟨bk, 0, none⟩) 8 8 | 6 => .int .i64 (f : Int) | 7 => .int .i64 (m : Int) | 8 => .int .i64 ((f : Int) + (m : Int)) | 9 => .slice (some ⟨bk, 0, none⟩) 0 0 | 10 => .string (toB J2) | 11 => .string (toB (J1 ++ [58, 58] ++ J2)) | _ => undef) (fun lb w' => Hid (Below W6.heap.size W6 w')) (fun _ => undef) 10 (show Tryz.prog.follows .mixedOrders = true from by kernel_rfl) (by kernel_rfl) ?_ ?_ (Lib.hid (Below.refl _ _).drew)
            · intro i op hi ho lb f' w' hl hS hd
              have hcase : i = 0 ∨ i = 1 ∨ i = 2 ∨ i = 3 ∨ i = 4 ∨ i = 5 ∨ i = 6 ∨ i = 7 ∨ i = 8 ∨ i = 9 ∨ i = 10 ∨ i = 11 := by omega
              rcases hcase with rfl | rfl | rfl | rfl | rfl | rfl | rfl | rfl | rfl | rfl | rfl | rfl <;> (replace ho := Option.some.inj ho; subst ho)
              · refine OpStep.of rfl ?_
                unfold Oper.wp
                go_simp
                first | exact ⟨by first | (simp [upd]; done) | (simp [upd]; omega), hS⟩ | (simp [upd]; done) | (simp [upd]; omega)
              · refine OpStep.of rfl ?_
                unfold Oper.wp
                go_simp
                first | exact ⟨by first | (simp [upd]; done) | (simp [upd]; omega), hS⟩ | (simp [upd]; done) | (simp [upd]; omega)
              · have e0 : f' 0 = .slice (some ⟨bk, 0, none⟩) 8 8 := (hd ⟨0, .data⟩ (by simp) rfl).2
                have e1 : f' 1 = .int .i64 (f : Int) := (hd ⟨1, .data⟩ (by simp) rfl).2
                refine OpStep.of rfl ?_
                unfold Oper.wp
                go_simp
                first | exact ⟨by first | (simp [upd, e0, e1]; done) | (simp [upd, e0, e1]; omega), hS⟩ | (simp [upd, e0, e1]; done) | (simp [upd, e0, e1]; omega)
              · have e2 : f' 2 = .slice (some ⟨bk, 0, none⟩) f 8 := (hd ⟨2, .data⟩ (by simp) rfl).2
                refine OpStep.of rfl ?_
                unfold Oper.wp
                go_simp
                refine (HJ1.out w' hS.out).mono ?_
                rintro e w9 ⟨rfl, hb9⟩
                exact ⟨by simp [upd, e2], Lib.hid (hS.out.trans (hb9.mono hS.out.size))⟩
              · have e3 : f' 3 = .string (toB J1) := (hd ⟨3, .data⟩ (by simp) rfl).2
                refine OpStep.of rfl ?_
                unfold Oper.wp
                go_simp
                simp [upd, e3, HQ1.out]
              · refine OpStep.of rfl ?_
                unfold Oper.wp
                go_simp
                first | exact ⟨by first | (simp [upd]; done) | (simp [upd]; omega), hS⟩ | (simp [upd]; done) | (simp [upd]; omega)
              · refine OpStep.of rfl ?_
                unfold Oper.wp
                go_simp
                first | exact ⟨by first | (simp [upd]; done) | (simp [upd]; omega), hS⟩ | (simp [upd]; done) | (simp [upd]; omega)
              · refine OpStep.of rfl ?_
                unfold Oper.wp
                go_simp
                first | exact ⟨by first | (simp [upd]; done) | (simp [upd]; omega), hS⟩ | (simp [upd]; done) | (simp [upd]; omega)
              · have e6 : f' 6 = .int .i64 (f : Int) := (hd ⟨6, .data⟩ (by simp) rfl).2
                have e7 : f' 7 = .int .i64 (m : Int) := (hd ⟨7, .data⟩ (by simp) rfl).2
                refine OpStep.of rfl ?_
                unfold Oper.wp
                go_simp
                first | exact ⟨by first | (simp [upd, e6, e7]; done) | (simp [upd, e6, e7]; omega), hS⟩ | (simp [upd, e6, e7]; done) | (simp [upd, e6, e7]; omega)
              · have e5 : f' 5 = .slice (some ⟨bk, 0, none⟩) 8 8 := (hd ⟨5, .data⟩ (by simp) rfl).2
                have e8 : f' 8 = .int .i64 ((f : Int) + (m : Int)) := (hd ⟨8, .data⟩ (by simp) rfl).2
                refine OpStep.of rfl ?_
                unfold Oper.wp
                go_simp
                first | exact ⟨by first | (simp [upd, e5, e8]; done) | (simp [upd, e5, e8]; omega), hS⟩ | (simp [upd, e5, e8]; done) | (simp [upd, e5, e8]; omega)
              · have e9 : f' 9 = .slice (some ⟨bk, 0, none⟩) 0 0 := (hd ⟨9, .data⟩ (by simp) rfl).2
                refine OpStep.of rfl ?_
                unfold Oper.wp
                go_simp
                refine (HJ2.out w' hS.out).mono ?_
                rintro e w9 ⟨rfl, hb9⟩
                exact ⟨by simp [upd, e9], Lib.hid (hS.out.trans (hb9.mono hS.out.size))⟩
              · have e4 : f' 4 = .string (toB (J1 ++ [58, 58])) := (hd ⟨4, .data⟩ (by simp) rfl).2
                have e10 : f' 10 = .string (toB J2) := (hd ⟨10, .data⟩ (by simp) rfl).2
                refine OpStep.of rfl ?_
                unfold Oper.wp
                go_simp
                simp [upd, e4, e10, HQ2.out]
            · intro op ho lb f' w' hd hS
              have e11 : f' 11 = .string (toB (J1 ++ [58, 58] ++ J2)) := (hd 11 (by omega)).2
              replace ho := Option.some.inj ho
              subst ho
              refine ⟨rfl, ?_⟩
              unfold Oper.wp
              go_simp
              first | (go_step; go_step; go_meet) | (go_step; go_meet) | go_meet | skip
              exact ⟨by simp, hS.out⟩
          · have HJ2 := Lib.hid (HJ2.out (f + m) (cap - (f + m)) (.inr rfl) (by omega))
            refine wp_region_exact 12 (fun f' => ⟨#[.agg #[Value.bool true, Value.int IntKind.u64 ↑hi, Value.int IntKind.u64 ↑lo], .pointer (some ⟨w.heap.size, 0, none⟩), .string { data := #[] }, undef, undef, .pointer (some ⟨B, 0, none⟩), .slice (some ⟨bk, 0, none⟩) 8 cap, undef, u8, .int .i64 f, .int .i64 m, .pointer (some ⟨w.heap.size, 0, none⟩), .bool true, .bool false, undef, undef, undef, undef, undef, undef, undef, undef, undef, undef, undef, undef, undef, undef, undef, undef, undef, .agg #[Value.bool true, Value.int IntKind.u64 ↑hi, Value.int IntKind.u64 ↑lo], .agg #[Value.int IntKind.u64 ↑(gN hi lo 0), Value.int IntKind.u64 ↑(gN hi lo 1), Value.int IntKind.u64 ↑(gN hi lo 2), Value.int IntKind.u64 ↑(gN hi lo 3), Value.int IntKind.u64 ↑(gN hi lo 4), Value.int IntKind.u64 ↑(gN hi lo 5), Value.int IntKind.u64 ↑(gN hi lo 6), Value.int IntKind.u64 ↑(gN hi lo 7)], .agg #[Value.int IntKind.u64 ↑(gN hi lo 0), Value.int IntKind.u64 ↑(gN hi lo 1), Value.int IntKind.u64 ↑(gN hi lo 2), Value.int IntKind.u64 ↑(gN hi lo 3), Value.int IntKind.u64 ↑(gN hi lo 4), Value.int IntKind.u64 ↑(gN hi lo 5), Value.int IntKind.u64 ↑(gN hi lo 6), Value.int IntKind.u64 ↑(gN hi lo 7)], .int .i64 8, .bool false, u36, u37, u38, u39, u40, u41, u42, .tuple #[Value.int IntKind.i64 ↑f, Value.int IntKind.i64 ↑m], .agg #[Value.int IntKind.u64 ↑(gN hi lo 0), Value.int IntKind.u64 ↑(gN hi lo 1), Value.int IntKind.u64 ↑(gN hi lo 2), Value.int IntKind.u64 ↑(gN hi lo 3), Value.int IntKind.u64 ↑(gN hi lo 4), Value.int IntKind.u64 ↑(gN hi lo 5), Value.int IntKind.u64 ↑(gN hi lo 6), Value.int IntKind.u64 ↑(gN hi lo 7)], .tuple #[Value.int IntKind.i64 ↑f, Value.int IntKind.i64 ↑m], .int .i64 f, .int .i64 m, .int .i64 m, .bool false, undef, undef, f' 0, f' 1, f' 2, f' 3, f' 4, f' 5, f' 6, f' 7, f' 8, f' 9, f' 10, f' 11], []⟩) (fun i => match i with | 0 => .slice (some ⟨bk, 0, none⟩) 8 cap | 1 => .int .i64 (f : Int) | 2 => .slice (some ⟨bk, 0, none⟩) f cap | 3 => .string (toB J1) | 4 => .string (toB (J1 ++ [58, 58])) | 5 => .slice (some ⟨bk, 0, none⟩) 8 cap | 6 => .int .i64 (f : Int) | 7 => .int .i64 (m : Int) | 8 => .int .i64 ((f : Int) + (m : Int)) | 9 => .slice (some ⟨bk, (f + m), none⟩) (8 - (f + m)) (cap - (f + m)) | 10 => .string (toB J2) | 11 => .string (toB (J1 ++ [58, 58] ++ J2)) | _ => undef) (fun lb w' => Hid (Below W6.heap.size W6 w')) (fun _ => undef) 10 (show Tryz.prog.follows .mixedOrders = true from by kernel_rfl) (by kernel_rfl) ?_ ?_ (Lib.hid (Below.refl _ _).drew)
            · intro i op hi ho lb f' w' hl hS hd
              have hcase : i = 0 ∨ i = 1 ∨ i = 2 ∨ i = 3 ∨ i = 4 ∨ i = 5 ∨ i = 6 ∨ i = 7 ∨ i = 8 ∨ i = 9 ∨ i = 10 ∨ i = 11 := by omega
              rcases hcase with rfl | rfl | rfl | rfl | rfl | rfl | rfl | rfl | rfl | rfl | rfl | rfl <;> (replace ho := Option.some.inj ho; subst ho)
              · refine OpStep.of rfl ?_
                unfold Oper.wp
                go_simp
                first | exact ⟨by first | (simp [upd]; done) | (simp [upd]; omega), hS⟩ | (simp [upd]; done) | (simp [upd]; omega)
              · refine OpStep.of rfl ?_
                unfold Oper.wp
                go_simp
                first | exact ⟨by first | (simp [upd]; done) | (simp [upd]; omega), hS⟩ | (simp [upd]; done) | (simp [upd]; omega)
              · have e0 : f' 0 = .slice (some ⟨bk, 0, none⟩) 8 cap := (hd ⟨0, .data⟩ (by simp) rfl).2
                have e1 : f' 1 = .int .i64 (f : Int) := (hd ⟨1, .data⟩ (by simp) rfl).2
                refine OpStep.of rfl ?_
                unfold Oper.wp
                go_simp
                first | exact ⟨by first | (simp [upd, e0, e1]; done) | (simp [upd, e0, e1]; omega), hS⟩ | (simp [upd, e0, e1]; done) | (simp [upd, e0, e1]; omega)
              · have e2 : f' 2 = .slice (some ⟨bk, 0, none⟩) f cap := (hd ⟨2, .data⟩ (by simp) rfl).2
                refine OpStep.of rfl ?_
                unfold Oper.wp
                go_simp
                refine (HJ1.out w' hS.out).mono ?_
                rintro e w9 ⟨rfl, hb9⟩
                exact ⟨by simp [upd, e2], Lib.hid (hS.out.trans (hb9.mono hS.out.size))⟩
              · have e3 : f' 3 = .string (toB J1) := (hd ⟨3, .data⟩ (by simp) rfl).2
                refine OpStep.of rfl ?_
                unfold Oper.wp
                go_simp
                simp [upd, e3, HQ1.out]
              · refine OpStep.of rfl ?_
                unfold Oper.wp
                go_simp
                first | exact ⟨by first | (simp [upd]; done) | (simp [upd]; omega), hS⟩ | (simp [upd]; done) | (simp [upd]; omega)
              · refine OpStep.of rfl ?_
                unfold Oper.wp
                go_simp
                first | exact ⟨by first | (simp [upd]; done) | (simp [upd]; omega), hS⟩ | (simp [upd]; done) | (simp [upd]; omega)
              · refine OpStep.of rfl ?_
                unfold Oper.wp
                go_simp
                first | exact ⟨by first | (simp [upd]; done) | (simp [upd]; omega), hS⟩ | (simp [upd]; done) | (simp [upd]; omega)
              · have e6 : f' 6 = .int .i64 (f : Int) := (hd ⟨6, .data⟩ (by simp) rfl).2
                have e7 : f' 7 = .int .i64 (m : Int) := (hd ⟨7, .data⟩ (by simp) rfl).2
                refine OpStep.of rfl ?_
                unfold Oper.wp
                go_simp
                first | exact ⟨by first | (simp [upd, e6, e7]; done) | (simp [upd, e6, e7]; omega), hS⟩ | (simp [upd, e6, e7]; done) | (simp [upd, e6, e7]; omega)
              · have e5 : f' 5 = .slice (some ⟨bk, 0, none⟩) 8 cap := (hd ⟨5, .data⟩ (by simp) rfl).2
                have e8 : f' 8 = .int .i64 ((f : Int) + (m : Int)) := (hd ⟨8, .data⟩ (by simp) rfl).2
                refine OpStep.of rfl ?_
                unfold Oper.wp
                go_simp
                first | exact ⟨by first | (simp [upd, e5, e8]; done) | (simp [upd, e5, e8]; omega), hS⟩ | (simp [upd, e5, e8]; done) | (simp [upd, e5, e8]; omega)
              · have e9 : f' 9 = .slice (some ⟨bk, (f + m), none⟩) (8 - (f + m)) (cap - (f + m)) := (hd ⟨9, .data⟩ (by simp) rfl).2
                refine OpStep.of rfl ?_
                unfold Oper.wp
                go_simp
                refine (HJ2.out w' hS.out).mono ?_
                rintro e w9 ⟨rfl, hb9⟩
                exact ⟨by simp [upd, e9], Lib.hid (hS.out.trans (hb9.mono hS.out.size))⟩
              · have e4 : f' 4 = .string (toB (J1 ++ [58, 58])) := (hd ⟨4, .data⟩ (by simp) rfl).2
                have e10 : f' 10 = .string (toB J2) := (hd ⟨10, .data⟩ (by simp) rfl).2
                refine OpStep.of rfl ?_
                unfold Oper.wp
                go_simp
                simp [upd, e4, e10, HQ2.out]
            · intro op ho lb f' w' hd hS
              have e11 : f' 11 = .string (toB (J1 ++ [58, 58] ++ J2)) := (hd 11 (by omega)).2
              replace ho := Option.some.inj ho
              subst ho
              refine ⟨rfl, ?_⟩
              unfold Oper.wp
              go_simp
              first | (go_step; go_step; go_meet) | (go_step; go_meet) | go_meet | skip
              exact ⟨by simp, hS.out⟩
        case rest =>
          obtain ⟨rfl, hb9⟩ := hcut
          have HF := Lib.hid (HB6.out.trans (hb9.mono HB6.out.size))
          clear hb9
          go_wp2_with fail
          go_ret
          exact ⟨by rw [HTT.out]; rfl, HF.out⟩
        -- END19
/-- A right address. -/
def AdOk (six : Bool) (hi lo : Nat) : Prop := hi < 18446744073709551616 ∧ lo < 18446744073709551616 ∧ (six = false → hi = 0 ∧ lo < 4294967296)
theorem textOf_any (six : Bool) (hi lo : Nat) (h : AdOk six hi lo) (w : World) (V : NmVars w) :
    Calls Tryz.prog 18 #[.agg #[.bool six, .int .u64 hi, .int .u64 lo]] w fun e w' => e = .returned (.string (toB (textA six hi lo))) ∧ Below w.heap.size w w' := by
  cases six
  · exact text_four hi lo (h.2.2 rfl).2 w V
  · exact text_six hi lo h.1 h.2.1 w V
end Go.Proofs.YtcicednopgpjfaaGreatDoor
