/- laneref2.AddrText: some string of at most 200 bytes. -/
import Derived.Test.YtcicednopgpjfaaGreatDoorAxM
import Derived.Test.YtcicednopgpjfaaGreatDoorMdB
import Derived.Deep.CutRange
import Derived.Test.YtcicednopgpjfaaGreatDoorRgE
namespace Go.Proofs.YtcicednopgpjfaaGreatDoor
open Go.RowKit Go.Hw Go.Shelf
/-- Strings lie somewhere. -/
def SsAt (w : World) (A : Option Addr) (xs : List (List UInt8)) : Prop := ∀ (j : Nat) x, xs[j]? = some x → ∃ g off, A = some ⟨g, off, none⟩ ∧ g < w.heap.size ∧ w.cell? ⟨g, off + j, none⟩ = some (.string (toB x))
theorem SsAt.below {w w' : World} {A : Option Addr} {xs : List (List UInt8)} (h : SsAt w A xs) (hb : Below w.heap.size w w') : SsAt w' A xs := fun j x hj =>
  let ⟨g, off, h1, h2, h3⟩ := h j x hj
  ⟨g, off, h1, Nat.lt_of_lt_of_le h2 hb.size, (hb.cell (p := ⟨g, _, none⟩) h2).trans h3⟩
theorem ss_sub {w : World} {bk : Nat} {xs : List (List UInt8)} (h : SsAt w (some ⟨bk, 0, none⟩) xs) (i n : Nat) : SsAt w (some ⟨bk, i, none⟩) ((xs.drop i).take n) := fun j x hj => by
  rw [List.getElem?_take] at hj
  split at hj
  · rw [List.getElem?_drop] at hj
    obtain ⟨g, off, e, h1, h2⟩ := h (i + j) x hj
    injection e with e
    simp only [Addr.mk.injEq, and_true] at e
    obtain ⟨rfl, rfl⟩ := e
    rw [Nat.zero_add] at h2
    exact ⟨_, i, rfl, h1, h2⟩
  · cases hj
theorem enters_at1 : ∀ args w, (callFunc 56 args).run Tryz.prog w = .ok (.enter 56 args) w := enters_of Tryz.func56 (by kernel_rfl) rfl
set_option maxRecDepth 100000 in
theorem at1_clos (s : ByteArray) (W : World) : Calls Tryz.prog 56 #[.string s] W fun en w' => en = .returned (.bool (!(s.toList == [48]))) ∧ w' = W := by
  have hq : ∀ b : Bool, (s.toList == [48]) = b → Calls Tryz.prog 56 #[.string s] W fun en w' => en = .returned (.bool (!b)) ∧ w' = W := by
    intro b hb
    go_enter Tryz.func56, Tryz.ntmps56
    go_wp2_with fail
    go_ret
    exact ⟨rfl, rfl⟩
  exact hq _ rfl
set_option maxRecDepth 100000 in
set_option maxHeartbeats 1000000 in
theorem ss_idx (A : Option Addr) (cap : Nat) (xs : List (List UInt8)) (w : World) (h : SsAt w A xs) (hl : xs.length ≤ 1000) :
    Calls Tryz.prog 93 #[.slice A xs.length cap, .func (.func 56) #[] #[]] w fun e w' => ∃ n : Int, e = .returned (.int .i64 n) ∧ Below w.heap.size w w' := by
  have eg := enters_at1
  go_enter Tryz.func93, Tryz.ntmps93
  go_wp2_with fail
  go_loopw [8] (fun v wr => ∃ k : Nat, k ≤ xs.length ∧ v = .int .i64 k ∧ Below w.heap.size w wr) (fun v _ => xs.length - (intOf v).toNat)
  case atStart => exact ⟨0, Nat.zero_le _, rfl, Below.refl _ _⟩
  case round =>
    obtain ⟨k, hk, rfl, hb⟩ := hrel
    have hlr := h.below hb
    by_cases hlt : k < xs.length
    · obtain ⟨g5, off, rfl, hgB, c0⟩ := hlr k xs[k] (List.getElem?_eq_getElem hlt)
      have HCALL := at1_clos (toB xs[k]) wr
      generalize toB xs[k] = x at *
      generalize (!(x.toList == [48])) = q at *
      have HB := Lib.hid hb
      clear hb hlr h
      have hd : decide ((k : Int) < (xs.length : Int)) = true := by simp; omega
      cases q
      · go_wp2_with (go_at_fn 56; refine HCALL.mono ?_; rintro e w1 ⟨rfl, rfl⟩)
        go_roundw
        case rel => exact ⟨k + 1, by omega, by go_num, HB.out⟩
        case measure => simp [intOf]; omega
      · go_wp2_with (go_at_fn 56; refine HCALL.mono ?_; rintro e w1 ⟨rfl, rfl⟩)
        go_ret
        exact ⟨_, rfl, HB.out⟩
    · have : k = xs.length := by omega
      subst this
      go_wp2_with fail
      go_ret
      exact ⟨_, rfl, hb⟩
set_option maxRecDepth 100000 in
theorem ss_any (A : Option Addr) (cap : Nat) (xs : List (List UInt8)) (w : World) (h : SsAt w A xs) (hl : xs.length ≤ 1000) :
    Calls Tryz.prog 55 #[.slice A xs.length cap, .func (.func 56) #[] #[]] w fun e w' => ∃ b : Bool, e = .returned (.bool b) ∧ Below w.heap.size w w' := by
  have hi := ss_idx A cap xs w h hl
  clear h
  go_enter Tryz.func55, Tryz.ntmps55
  go_wp2_with fail
  refine hi.mono ?_
  rintro e w1 ⟨n, rfl, hb⟩
  have HB := Lib.hid hb
  clear hi hb
  go_wp2_with fail
  go_ret
  exact ⟨_, rfl, HB.out⟩
theorem i64_bits (op : BinOp) (x y : Int) : -9223372036854775808 ≤ bits op .i64 x y ∧ bits op .i64 x y ≤ 9223372036854775807 := by
  unfold bits
  rw [IntKind.wrap_i64]
  omega
def itoW (L : List Int) : List (List UInt8) := L.map Lib.itoa
theorem itoW_take {L : List Int} {k : Nat} (hk : k < L.length) : (itoW L).take (k + 1) = (itoW L).take k ++ [Lib.itoa (L.getD k 0)] := by
  unfold itoW
  rw [List.take_succ_eq_append_getElem (by simpa using hk), List.getElem_map, List.getD_eq_getElem?_getD, List.getElem?_eq_getElem hk]
  rfl
theorem itoW_len (L : List Int) : (itoW L).length = L.length := by simp [itoW]
theorem itoW_le {L : List Int} (h : ∀ x ∈ L, -9223372036854775808 ≤ x ∧ x ≤ 9223372036854775807) : ∀ x ∈ itoW L, x.length ≤ 21 := fun x hx => by
  obtain ⟨n, hn, rfl⟩ := List.mem_map.1 hx
  exact Lib.itoa_length_le n (h n hn).1 (h n hn).2
def AtOut (w : World) (e : Ending) (w' : World) : Prop := ∃ t : ByteArray, t.size ≤ 200 ∧ e = .returned (.string t) ∧ Below w.heap.size w w'
set_option maxRecDepth 100000 in
set_option maxHeartbeats 2000000 in
theorem addrText_four (hi lo : Int) (w : World) (V : NmVars w) (hh : 0 ≤ hi ∧ hi ≤ 18446744073709551615) (hl : 0 ≤ lo ∧ lo ≤ 18446744073709551615) :
    Calls Tryz.prog 28 #[.agg #[.bool false, .int .u64 hi, .int .u64 lo]] w (AtOut w) := by
  obtain ⟨i0, hi0, hz0, hz1, hz2⟩ := info_parts infoString
  have hof := fun W => of_any false hi lo W hh hl
  have HD := Lib.hid (wd_bd false hi lo)
  have hB : Below w.heap.size w (w.alloc (addrBox false hi lo)) := (Below.refl _ _).alloc (Nat.le_refl _) _
  have hx := heap_alloc_new w (addrBox false hi lo)
  obtain ⟨x0, x1, x2, -⟩ := res3 hx
  have HB := Lib.hid hB
  have HV := Lib.hid V
  unfold addrBox at x0 x1 x2
  clear hB hx hh hl V
  go_enter Tryz.func28, Tryz.ntmps28
  go_wp2_with fail
  refine (hof _).mono ?_
  rintro e w1 ⟨rfl, hb1⟩
  have HB1 := Lib.hid (HB.out.trans (hb1.mono HB.out.size))
  have hle := HB1.out.size
  unfold wideV
  clear hb1 hof x0 x1 x2
  generalize wd false hi lo = d at *
  have hx := heap_alloc_new w1 (.cells (arr9 d) 93)
  obtain ⟨c0, -⟩ := arr_get hx (j := 0) (by omega)
  obtain ⟨c1, -⟩ := arr_get hx (j := 1) (by omega)
  have HD0 := HD.out 0
  have HD1 := HD.out 1
  unfold arr9 at c0 c1 ⊢
  clear hx
  go_wp2_with fail
  have HL : Hid (∀ x ∈ [d 1 / 256, bits .and .i64 (d 1) 255, d 0 / 256, bits .and .i64 (d 0) 255], -9223372036854775808 ≤ x ∧ x ≤ 9223372036854775807) := Lib.hid (by
    have e1 := i64_bits .and (d 1) 255
    have e2 := i64_bits .and (d 0) 255
    simp only [List.mem_cons, List.mem_nil_iff, or_false]
    rintro x (rfl | rfl | rfl | rfl) <;> omega)
  have hx := al22 w1 (.cells #[.int .i64 (d 0), .int .i64 (d 1), .int .i64 (d 2), .int .i64 (d 3), .int .i64 (d 4), .int .i64 (d 5), .int .i64 (d 6), .int .i64 (d 7), .int .i64 (d 8)] 93) (.cells #[.int .i64 (d 1 / 256), .int .i64 (bits .and .i64 (d 1) 255), .int .i64 (d 0 / 256), .int .i64 (bits .and .i64 (d 0) 255)] 3)
  have HX := Lib.hid hx
  have HBW : Hid (Below w.heap.size w _) := Lib.hid ((HB1.out.alloc HB1.out.size (.cells #[.int .i64 (d 0), .int .i64 (d 1), .int .i64 (d 2), .int .i64 (d 3), .int .i64 (d 4), .int .i64 (d 5), .int .i64 (d 6), .int .i64 (d 7), .int .i64 (d 8)] 93)).alloc (by rw [World.alloc]; simp; omega) (.cells #[.int .i64 (d 1 / 256), .int .i64 (bits .and .i64 (d 1) 255), .int .i64 (d 0 / 256), .int .i64 (bits .and .i64 (d 0) 255)] 3))
  clear hx c0 c1 HB1 HB HD HD0 HD1
  generalize bits .and .i64 (d 1) 255 = x1 at *
  generalize bits .and .i64 (d 0) 255 = x3 at *
  generalize d 1 / 256 = x0 at *
  generalize d 0 / 256 = x2 at *
  generalize World.alloc (World.alloc w1 _) _ = W at *
  generalize w1.heap.size = K at *
  have HN : Hid (TxI w (.cells #[.int .i64 x0, .int .i64 x1, .int .i64 x2, .int .i64 x3] 3) (itoW [x0, x1, x2, x3]) (K + 1) (K + 1 + 1) 0 (.slice none 0 0) W) := Lib.hid ⟨_, rfl, World.ownsRow_nil _ _ _ _, HBW.out, HX.out⟩
  clear HBW HX
  go_loopw [4, 6, 31] (fun v4 _ v31 wr => ∃ k : Nat, k ≤ 4 ∧ v31 = .int .i64 k ∧ TxI w (.cells #[.int .i64 x0, .int .i64 x1, .int .i64 x2, .int .i64 x3] 3) (itoW [x0, x1, x2, x3]) (K + 1) (K + 1 + 1) k v4 wr) (fun _ _ v31 _ => 4 - (intOf v31).toNat)
  case atStart => exact ⟨0, by omega, rfl, HN.out⟩
  case round =>
    obtain ⟨k, hk, rfl, sv, rfl, hO, hb, hx⟩ := hrel
    by_cases hlt : k < 4
    · obtain ⟨x, hxk⟩ : ∃ x, [x0, x1, x2, x3].getD k 0 = x := ⟨_, rfl⟩
      have c0 : wr.cell? ⟨K + 1, k, none⟩ = some (.int .i64 x) := by
        rw [← hxk]
        obtain ⟨⟨z0, z1, z2, z3⟩, -⟩ := res4 hx
        have hc : k = 0 ∨ k = 1 ∨ k = 2 ∨ k = 3 := by omega
        rcases hc with rfl | rfl | rfl | rfl <;> assumption
      have hr := HL.out x (hxk ▸ rw_mem (by exact hlt))
      have HT := Lib.hid (itoW_take (L := [x0, x1, x2, x3]) (k := k) hlt)
      rw [hxk] at HT
      have hit := fun W' (hW : Below wr.heap.size wr W') => Tryz.strconv_Itoa x hr.1 hr.2 W' ((HV.out.below hb (Nat.le_refl _)).below hW (Nat.le_refl _)).tab
      have HO := Lib.hid hO
      have HBk := Lib.hid hb
      have HX := Lib.hid hx
      clear hO hb hx hxk
      go_wp2_with fail
      refine (hit wr (Below.refl _ _)).mono ?_
      rintro e w2 ⟨rfl, n, os, hw2⟩
      have hb2 : Below wr.heap.size wr w2 := by rw [hw2]; exact Lib.below_grow wr.heap.size wr (Nat.le_refl _) n os
      have HO2 : Hid (w2.ownsRow (K + 1 + 1) 9 1 sv ((itoW [x0, x1, x2, x3]).take k).length (strsC ((itoW [x0, x1, x2, x3]).take k))) := Lib.hid (own_below HO.out hb2 (Nat.le_refl _))
      have HB2 := Lib.hid (HBk.out.trans (hb2.mono HBk.out.size))
      have HX2 := Lib.hid ((hb2.block _ (lt_of_block HX.out)).trans HX.out)
      have hlen : ((itoW [x0, x1, x2, x3]).take k).length = k := by rw [List.length_take, itoW_len]; simp; omega
      have hsz := HB2.out.size
      have hsz2 := lt_of_block HX2.out
      clear hit hb2 hw2
      go_wp2_with (at_builtin; refine wpList_append_own _ rfl (.tmp 35) (.tmp 38) 79 rfl (K + 1 + 1) 9 i0 (.string ⟨#[]⟩) 1 16 Tryz.underlying79 hi0 hz0 hz1 hz2 rfl (by decide) _ _ _ rfl (World.ownsRow.alloc HO2.out _) ⟨w2.heap.size, 0, none⟩ 1 1 [.string (toB (Lib.itoa x))] rfl rfl (cells_new w2 [.string (toB (Lib.itoa x))] _) (by simp [Value.oneCell']) (by unfold maxLen; first | omega | (simp; omega)) (by first | omega | (simp; omega)) (by first | omega | (simp; omega) | simp) ?_)
      intro v' w4 ho4 hg4 _
      have HREL := Lib.hid (tx_next (by omega) (by omega) HO2.out HB2.out HX2.out HT.out hlen.symm ho4 hg4)
      clear ho4 hg4 hlen
      go_wp2_with fail
      exact ⟨⟨k + 1, by omega, by simp, HREL.out⟩, by simp [intOf]; omega⟩
    · obtain rfl : k = 4 := by omega
      clear hlt
      have HBk := Lib.hid hb
      have hl4 : (itoW [x0, x1, x2, x3]).length = 4 := rfl
      rw [List.take_of_length_le (by omega)] at hO
      obtain ⟨bk, cap, hv, -, hbk, hcap, hcells⟩ := strs_at hO (by omega)
      subst hv
      have hjl := Nat.le_trans (join_le 46 21 _ (itoW_le HL.out)) (by rw [hl4]; omega : (21 + 1) * (itoW [x0, x1, x2, x3]).length ≤ 88)
      have hj := join_any (some ⟨bk, 0, none⟩) cap (itoW [x0, x1, x2, x3]) 46 wr (fun j x hx => ⟨bk, 0, rfl, hbk, hcells j x hx⟩) hcap (by omega) (by omega)
      rw [hl4] at hj ⊢
      have HJL : Hid ((toB (Lib.join (itoW [x0, x1, x2, x3]) [46])).size ≤ 200) := Lib.hid (by show (Lib.join (itoW [x0, x1, x2, x3]) [46]).toArray.size ≤ 200; simp; omega)
      clear hO hb hx hcells hcap hl4 hjl
      go_wp2_with fail
      refine hj.mono ?_
      rintro e w2 ⟨rfl, hb2⟩
      have HF := Lib.hid (HBk.out.trans (hb2.mono HBk.out.size))
      clear hj hb2
      go_wp2_with fail
      go_ret
      exact ⟨_, HJL.out, rfl, HF.out⟩
/-! ### six -/
def grW8 (six : Bool) (hi lo : Int) : List (List UInt8) := (grL six hi lo).map (fun n => hexL n.toNat)
theorem grW8_len (six : Bool) (hi lo : Int) : (grW8 six hi lo).length = 8 := by simp [grW8, grL_len]
theorem grL_bd (six : Bool) (hi lo : Int) : ∀ n ∈ grL six hi lo, 0 ≤ n ∧ n < 65536 := fun n hn => by
  obtain ⟨i, _, rfl⟩ := List.mem_map.1 hn
  exact wd_bd six hi lo _
theorem grW8_le (six : Bool) (hi lo : Int) : ∀ x ∈ grW8 six hi lo, x.length ≤ 4 := fun x hx => by
  obtain ⟨n, _, rfl⟩ := List.mem_map.1 hx
  exact (hexL_len _).2
theorem grW8_take {six : Bool} {hi lo : Int} {k : Nat} (hk : k < 8) : (grW8 six hi lo).take (k + 1) = (grW8 six hi lo).take k ++ [hexL ((grL six hi lo).getD k 0).toNat] := by
  unfold grW8
  rw [List.take_succ_eq_append_getElem (by simp [grL_len]; exact hk), List.getElem_map, List.getD_eq_getElem?_getD, List.getElem?_eq_getElem (by rw [grL_len]; exact hk)]
  rfl
/-- The first words lie in a row of their own behind w1. -/
def TxJ (w1 : World) (xs : List (List UInt8)) (n : Nat) (v : Value) (wr : World) : Prop := ∃ sv, sv = v ∧ StrsOwn wr w1.heap.size sv (xs.take n) ∧ Below w1.heap.size w1 wr
theorem tj_next {w1 w2 w4 : World} {p : Obj} {xs : List (List UInt8)} {x : List UInt8} {n : Nat} {sv v' : Value} (ho : StrsOwn w2 w1.heap.size sv (xs.take n)) (hb : Below w1.heap.size w1 w2) (ht : xs.take (n + 1) = xs.take n ++ [x])
    {m : Nat} (hm : m = (xs.take n).length) (ho4 : w4.ownsRow w1.heap.size 9 1 v' (m + 1) (strsC (xs.take n) ++ [.string (toB x)])) (hg4 : (w2.alloc p).grownBy w4 sv.ownBlock) : TxJ w1 xs (n + 1) v' w4 := by
  have hlt' := World.ownsRow.lt ho
  refine ⟨v', rfl, ?_, (hb.alloc hb.size _).grown hg4 (hb.alloc hb.size _).size (fun j hj => by have := (hlt' j hj).1; omega)⟩
  rw [ht]
  unfold StrsOwn
  rw [strs_snoc]
  exact own_as ho4 (by rw [hm, List.length_append]; rfl) rfl
set_option maxRecDepth 100000 in
set_option maxHeartbeats 2000000 in
theorem addrText_six (hi lo : Int) (w : World) (V : NmVars w) (hh : 0 ≤ hi ∧ hi ≤ 18446744073709551615) (hl : 0 ≤ lo ∧ lo ≤ 18446744073709551615) :
    Calls Tryz.prog 28 #[.agg #[.bool true, .int .u64 hi, .int .u64 lo]] w (AtOut w) := by
  obtain ⟨i0, hi0, hz0, hz1, hz2⟩ := info_parts infoString
  have hgr := fun W => refGroups_any true hi lo W hh hl
  have hB : Below w.heap.size w (w.alloc (addrBox true hi lo)) := (Below.refl _ _).alloc (Nat.le_refl _) _
  have hx := heap_alloc_new w (addrBox true hi lo)
  obtain ⟨x0, x1, x2, -⟩ := res3 hx
  have HB := Lib.hid hB
  have HV := Lib.hid V
  unfold addrBox at x0 x1 x2
  clear hB hx hh hl V
  go_enter Tryz.func28, Tryz.ntmps28
  go_wp2_with fail
  refine (hgr _).mono ?_
  rintro e w1 ⟨gv, rfl, hgo, hb1⟩
  have HB1 := Lib.hid (HB.out.trans (hb1.mono HB.out.size))
  have hle := HB1.out.size
  obtain ⟨A, gcap, rfl, hia⟩ := is_of hgo
  have h8 := grL_len true hi lo
  rw [h8]
  have HIA := Lib.hid hia
  have HBD := Lib.hid (grL_bd true hi lo)
  have HW8 := Lib.hid (grW8_len true hi lo)
  have HWL := Lib.hid (grW8_le true hi lo)
  have HTK : Hid (∀ k, k < 8 → (grW8 true hi lo).take (k + 1) = (grW8 true hi lo).take k ++ [hexL ((grL true hi lo).getD k 0).toNat]) := Lib.hid (fun k hk => grW8_take hk)
  have H8 := Lib.hid h8
  generalize grL true hi lo = gl at *
  generalize grW8 true hi lo = xs at *
  have HN : Hid (TxJ w1 xs 0 (.slice none 0 0) w1) := Lib.hid ⟨_, rfl, World.ownsRow_nil _ _ _ _, Below.refl _ _⟩
  clear hb1 hgr hgo hia h8 x0 x1 x2 HB
  go_wp2_with fail
  go_loopw [7, 9, 46] (fun v7 _ v46 wr => ∃ k : Nat, k ≤ 8 ∧ v46 = .int .i64 k ∧ TxJ w1 xs k v7 wr) (fun _ _ v46 _ => 8 - (intOf v46).toNat)
  case atStart => exact ⟨0, by omega, rfl, HN.out⟩
  case round =>
    obtain ⟨k, hk, rfl, sv, rfl, hO, hb⟩ := hrel
    by_cases hlt : k < 8
    · obtain ⟨g5, off, rfl, hgB, c0⟩ := (HIA.out.below hb) k (by rw [H8.out]; exact hlt)
      have HT := Lib.hid (HTK.out k hlt)
      have hr := HBD.out (gl.getD k 0) (rw_mem (by rw [H8.out]; exact hlt))
      obtain ⟨N, hN⟩ := Int.eq_ofNat_of_zero_le hr.1
      rw [hN] at c0 HT hr
      rw [Int.toNat_natCast] at HT
      have hit := fun W' (hW : Below wr.heap.size wr W') => fmtI16 N (by omega) W' ((HV.out.below (HB1.out.trans (hb.mono hle)) (Nat.le_refl _)).below hW (Nat.le_refl _)).tz
      have HO := Lib.hid hO
      have HBk := Lib.hid hb
      clear hO hb hN hr
      go_wp2_with fail
      refine (hit wr (Below.refl _ _)).mono ?_
      rintro e w2 ⟨rfl, hb2⟩
      have HO2 : Hid (w2.ownsRow w1.heap.size 9 1 sv (xs.take k).length (strsC (xs.take k))) := Lib.hid (own_below HO.out hb2 (Nat.le_refl _))
      have HB2 := Lib.hid (HBk.out.trans (hb2.mono HBk.out.size))
      have hlen : (xs.take k).length = k := by rw [List.length_take, HW8.out]; omega
      have hsz := HB2.out.size
      clear hit hb2
      go_wp2_with (at_builtin; refine wpList_append_own _ rfl (.tmp 50) (.tmp 53) 79 rfl w1.heap.size 9 i0 (.string ⟨#[]⟩) 1 16 Tryz.underlying79 hi0 hz0 hz1 hz2 rfl (by decide) _ _ _ rfl (World.ownsRow.alloc HO2.out _) ⟨w2.heap.size, 0, none⟩ 1 1 [.string (toB (hexL N))] rfl rfl (cells_new w2 [.string (toB (hexL N))] _) (by simp [Value.oneCell']) (by unfold maxLen; first | omega | (simp; omega)) (by first | omega | (simp; omega)) (by first | omega | (simp; omega) | simp) ?_)
      intro v' w4 ho4 hg4 _
      have HREL := Lib.hid (tj_next HO2.out HB2.out HT.out hlen.symm ho4 hg4)
      clear ho4 hg4 hlen
      go_wp2_with fail
      exact ⟨⟨k + 1, by omega, by simp, HREL.out⟩, by simp [intOf]; omega⟩
    · obtain rfl : k = 8 := by omega
      clear hlt
      rw [List.take_of_length_le (by rw [HW8.out]; omega)] at hO
      obtain ⟨bk, cap, hv, -, hbk, hcap, hcells⟩ := strs_at hO (by rw [HW8.out]; omega)
      subst hv
      have HSS : Hid (SsAt wr (some ⟨bk, 0, none⟩) xs) := Lib.hid (fun j x hx => ⟨bk, 0, rfl, hbk, hcells j x hx⟩)
      have HBk := Lib.hid (HB1.out.trans (hb.mono hle))
      rw [HW8.out] at hcap ⊢
      clear hO hb hcells HTK HIA
      obtain ⟨W6, rfl⟩ : ∃ W : World, W = wr := ⟨_, rfl⟩
      go_wp2_with fail
      go_loopw [10, 11] (fun v10 _ wr => ∃ m : Nat, 1 ≤ m ∧ m ≤ 8 ∧ v10 = .int .i64 m ∧ Below W6.heap.size W6 wr) (fun v10 _ _ => (intOf v10).toNat)
      case atStart => exact ⟨8, by omega, by omega, rfl, Below.refl _ _⟩
      case round =>
        obtain ⟨m, hn1, hn8, rfl, hb6⟩ := hrel
        by_cases hn2 : 2 ≤ m
        · have d1 : decide ((2 : Int) ≤ (m : Int)) = true := by simp; omega
          have HB6 := Lib.hid hb6
          have s1 : IntKind.i64.wrap ((m : Int) - 1) = (m : Int) - 1 := IntWalk.i64_in _ (by omega)
          obtain ⟨wo, rfl⟩ : ∃ W : World, W = wr := ⟨_, rfl⟩
          clear hb6
          go_wp2_with fail
          go_loopw [11] (fun v11 wr => ∃ f : Nat, f + m ≤ 9 ∧ v11 = .int .i64 f ∧ Below W6.heap.size W6 wr) (fun v11 _ => 9 - (intOf v11).toNat)
          case atStart => exact ⟨0, by omega, rfl, HB6.out⟩
          case round =>
            obtain ⟨f, hi9, rfl, hb7⟩ := hrel
            have HB7 := Lib.hid hb7
            clear hb7
            have s2 : IntKind.i64.wrap ((f : Int) + (m : Int)) = (f : Int) + (m : Int) := IntWalk.i64_in _ (by omega)
            by_cases hi8 : f + m ≤ 8
            · have d2 : decide ((f : Int) + (m : Int) ≤ 8) = true := by simp; omega
              have t1 : ((f : Int) + (m : Int)).toNat = f + m := by omega
              have t2 : (f : Int) + (m : Int) ≤ (cap : Int) := by omega
              have t3 : (0 : Int) ≤ (f : Int) + (m : Int) := by omega
              have t4 : (f : Int) ≤ (f : Int) + (m : Int) := by omega
              have t5 : ¬ cap = f := by omega
              have t6 : f + m - f = m := by omega
              have t7 : (f : Int) ≤ (cap : Int) := by omega
              have hsub : SsAt wr (some ⟨bk, f, none⟩) ((xs.drop f).take m) := (ss_sub HSS.out f m).below HB7.out
              have hl1 : ((xs.drop f).take m).length = m := by rw [List.length_take, List.length_drop, HW8.out]; omega
              have hca := ss_any (some ⟨bk, f, none⟩) (cap - f) ((xs.drop f).take m) wr hsub (by omega)
              rw [hl1] at hca
              clear hsub hl1
              go_wp2_with fail
              refine hca.mono ?_
              rintro e w8 ⟨q, rfl, hb8⟩
              have HB8 := Lib.hid (HB7.out.trans (hb8.mono HB7.out.size))
              clear hca hb8
              cases q
              · go_upto_region 23 with (fail)
                -- REGION23
                have t8 : f ≤ cap := by omega
                have t9 : f ≤ 8 := by omega
                have l1 : (xs.take f).length = f := by rw [List.length_take, HW8.out]; omega
                have l2 : (xs.drop (f + m)).length = 8 - (f + m) := by rw [List.length_drop, HW8.out]
                obtain ⟨J1, hJ1⟩ : ∃ J1, Lib.join (xs.take f) [58] = J1 := ⟨_, rfl⟩
                obtain ⟨J2, hJ2⟩ : ∃ J2, Lib.join (xs.drop (f + m)) [58] = J2 := ⟨_, rfl⟩
                have HJ1 : Hid (∀ W7, Below W6.heap.size W6 W7 → Calls Tryz.prog 38 #[.slice (some ⟨bk, 0, none⟩) f cap, .string ⟨#[58]⟩] W7 fun e w' => e = .returned (.string (toB J1)) ∧ Below W7.heap.size W7 w') := Lib.hid (fun W7 hb => by
                  have h := join_any (some ⟨bk, 0, none⟩) cap (xs.take f) 58 W7 ((by have := ss_sub HSS.out 0 f; rw [List.drop_zero] at this; exact this : SsAt W6 (some ⟨bk, 0, none⟩) (xs.take f)).below hb) (by rw [l1]; exact t8) (by rw [l1]; omega) (Nat.le_trans (join_le 58 4 _ (fun x hx => HWL.out x (List.mem_of_mem_take hx))) (by rw [l1]; omega))
                  rw [l1, hJ1] at h
                  exact h)
                have HJ2 : Hid (∀ (off : Nat) (c : Nat), (8 - (f + m) = 0 ∨ off = f + m) → 8 - (f + m) ≤ c → ∀ W7, Below W6.heap.size W6 W7 → Calls Tryz.prog 38 #[.slice (some ⟨bk, off, none⟩) (8 - (f + m)) c, .string ⟨#[58]⟩] W7 fun e w' => e = .returned (.string (toB J2)) ∧ Below W7.heap.size W7 w') := Lib.hid (fun off c ho hc W7 hb => by
                  have h := join_any (some ⟨bk, off, none⟩) c (xs.drop (f + m)) 58 W7 ((by
                    intro j x hx
                    have hj : j < (xs.drop (f + m)).length := (List.getElem?_eq_some_iff.1 hx).1
                    rw [l2] at hj
                    have ho' : off = f + m := by omega
                    subst ho'
                    have := ss_sub HSS.out (f + m) 8
                    rw [List.take_of_length_le (by rw [l2]; omega)] at this
                    exact this j x hx : SsAt W6 (some ⟨bk, off, none⟩) (xs.drop (f + m))).below hb) (by rw [l2]; exact hc) (by rw [l2]; omega) (Nat.le_trans (join_le 58 4 _ (fun x hx => HWL.out x (List.mem_of_mem_drop hx))) (by rw [l2]; omega))
                  rw [l2, hJ2] at h
                  exact h)
                have q1 := join_le 58 4 _ (fun x hx => HWL.out x (List.mem_of_mem_take (i := f) hx))
                rw [hJ1, l1] at q1
                have q2 := join_le 58 4 _ (fun x hx => HWL.out x (List.mem_of_mem_drop (i := f + m) hx))
                rw [hJ2, l2] at q2
                have z1 : (toB J1).size ≤ 40 := by show J1.toArray.size ≤ 40; simp; omega
                have z2 : (toB J2).size ≤ 40 := by show J2.toArray.size ≤ 40; simp; omega
                have z3 : (toB (J1 ++ [58, 58])).size ≤ 42 := by show (J1 ++ [58, 58]).toArray.size ≤ 42; simp; omega
                have HZT : Hid ((toB (J1 ++ [58, 58] ++ J2)).size ≤ 200) := Lib.hid (by show (J1 ++ [58, 58] ++ J2).toArray.size ≤ 200; simp; omega)
                have y1 : ¬ 9223372036854775807 < (toB J1).size + 2 := by omega
                have y2 : ¬ 9223372036854775807 < (toB (J1 ++ [58, 58])).size + (toB J2).size := by omega
                have HQ1 : Hid (toB J1 ++ ⟨#[58, 58]⟩ = toB (J1 ++ [58, 58])) := Lib.hid (toB_app J1 [58, 58])
                have HQ2 : Hid (toB (J1 ++ [58, 58]) ++ toB J2 = toB (J1 ++ 58 :: 58 :: J2)) := Lib.hid (by rw [toB_app]; simp)
                clear l1 l2 hJ1 hJ2 q1 q2
                go_cut [2] from 74 to 85 (fun v2 wc => v2 = .string (toB (J1 ++ [58, 58] ++ J2)) ∧ Below W6.heap.size W6 wc)
                case first =>
                  by_cases hcs : cap = f + m
                  · have hs8 : f + m = 8 := by omega
                    have HJ2 : Hid (∀ W7, Below W6.heap.size W6 W7 → Calls Tryz.prog 38 #[.slice (some ⟨bk, 0, none⟩) 0 0, .string ⟨#[58]⟩] W7 fun e w' => e = .returned (.string (toB J2)) ∧ Below W7.heap.size W7 w') := Lib.hid (by
                      have h := HJ2.out 0 0 (.inl (by omega)) (by omega)
                      rw [show 8 - (f + m) = 0 by omega] at h
                      exact h)
                    have k1 : ((f : Int) + (m : Int)).toNat = 8 := by omega
                    have k2 : (f : Int) + (m : Int) ≤ 8 := by omega
                    obtain rfl : cap = 8 := by omega
                    have t18 : (f : Int) ≤ 8 := by omega
                    clear t1 hcs hs8 hcap t2 t7
                    refine wp_region_exact 12 (fun f' => ⟨#[.agg #[Value.bool true, Value.int IntKind.u64 hi, Value.int IntKind.u64 lo], .pointer (some ⟨w.heap.size, 0, none⟩), u2, undef, undef, undef, undef, .slice (some ⟨bk, 0, none⟩) 8 8, undef, u9, .int .i64 m, .int .i64 f, .pointer (some ⟨w.heap.size, 0, none⟩), .bool true, .bool false, undef, undef, undef, undef, undef, undef, undef, undef, undef, undef, undef, undef, undef, undef, undef, undef, undef, undef, undef, undef, undef, undef, undef, undef, undef, undef, undef, undef, .agg #[Value.bool true, Value.int IntKind.u64 hi, Value.int IntKind.u64 lo], .slice A 8 gcap, .int .i64 8, .int .i64 8, .bool false, u48, u49, u50, u51, u52, u53, u54, u55, .int .i64 m, .bool true, u58, u59, .int .i64 f, .int .i64 m, .int .i64 (↑f + ↑m), .bool true, u64, u65, .slice (some ⟨bk, 0, none⟩) 8 8, .int .i64 f, .int .i64 f, .int .i64 m, .int .i64 (↑f + ↑m), .slice (some ⟨bk, f, none⟩) m (8 - f), .bool false, .bool true, f' 0, f' 1, f' 2, f' 3, f' 4, f' 5, f' 6, f' 7, f' 8, f' 9, f' 10, f' 11, undef, undef], []⟩) (fun i => match i with | 0 => .slice (some ⟨bk, 0, none⟩) 8 8 | 1 => .int .i64 (f : Int) | 2 => .slice (some ⟨bk, 0, none⟩) f 8 | 3 => .string (toB J1) | 4 => .string (toB (J1 ++ [58, 58])) | 5 => .slice (some ⟨bk, 0, none⟩) 8 8 | 6 => .int .i64 (f : Int) | 7 => .int .i64 (m : Int) | 8 => .int .i64 ((f : Int) + (m : Int)) | 9 => .slice (some ⟨bk, 0, none⟩) 0 0 | 10 => .string (toB J2) | 11 => .string (toB (J1 ++ [58, 58] ++ J2)) | _ => undef) (fun lb w' => Hid (Below W6.heap.size W6 w')) (fun i => match i with | 0 => u74 | 1 => u75 | 2 => u76 | 3 => u77 | 4 => u78 | 5 => u79 | 6 => u80 | 7 => u81 | 8 => u82 | 9 => u83 | 10 => u84 | 11 => u85 | _ => undef) 10 (show Tryz.prog.follows .mixedOrders = true from by kernel_rfl) (by kernel_rfl) ?_ ?_ (Lib.hid HB8.out.drew)
                    · intro i op hi ho lb f' w' hl hS hd
                      have hcase : i = 0 ∨ i = 1 ∨ i = 2 ∨ i = 3 ∨ i = 4 ∨ i = 5 ∨ i = 6 ∨ i = 7 ∨ i = 8 ∨ i = 9 ∨ i = 10 ∨ i = 11 := by omega
                      rcases hcase with rfl | rfl | rfl | rfl | rfl | rfl | rfl | rfl | rfl | rfl | rfl | rfl <;> (replace ho := Option.some.inj ho; subst ho)
                      · refine OpStep.of rfl ?_
                        unfold Oper.wp
                        go_simp
                        first | exact ⟨by first | (simp [upd]; done) | (simp [upd]; omega), hS⟩ | (simp [upd]; done) | (simp [upd]; omega)
                      · refine OpStep.of rfl ?_
                        unfold Oper.wp
                        go_simp
                        first | exact ⟨by first | (simp [upd]; done) | (simp [upd]; omega), hS⟩ | (simp [upd]; done) | (simp [upd]; omega)
                      · have e0 : f' 0 = .slice (some ⟨bk, 0, none⟩) 8 8 := (hd ⟨0, .data⟩ (by simp) rfl).2
                        have e1 : f' 1 = .int .i64 (f : Int) := (hd ⟨1, .data⟩ (by simp) rfl).2
                        refine OpStep.of rfl ?_
                        unfold Oper.wp
                        go_simp
                        first | exact ⟨by first | (simp [upd, e0, e1]; done) | (simp [upd, e0, e1]; omega), hS⟩ | (simp [upd, e0, e1]; done) | (simp [upd, e0, e1]; omega)
                      · have e2 : f' 2 = .slice (some ⟨bk, 0, none⟩) f 8 := (hd ⟨2, .data⟩ (by simp) rfl).2
                        refine OpStep.of rfl ?_
                        unfold Oper.wp
                        go_simp
                        refine (HJ1.out w' hS.out).mono ?_
                        rintro e w9 ⟨rfl, hb9⟩
                        exact ⟨by simp [upd, e2], Lib.hid (hS.out.trans (hb9.mono hS.out.size))⟩
                      · have e3 : f' 3 = .string (toB J1) := (hd ⟨3, .data⟩ (by simp) rfl).2
                        refine OpStep.of rfl ?_
                        unfold Oper.wp
                        go_simp
                        simp [upd, e3, HQ1.out]
                      · refine OpStep.of rfl ?_
                        unfold Oper.wp
                        go_simp
                        first | exact ⟨by first | (simp [upd]; done) | (simp [upd]; omega), hS⟩ | (simp [upd]; done) | (simp [upd]; omega)
                      · refine OpStep.of rfl ?_
                        unfold Oper.wp
                        go_simp
                        first | exact ⟨by first | (simp [upd]; done) | (simp [upd]; omega), hS⟩ | (simp [upd]; done) | (simp [upd]; omega)
                      · refine OpStep.of rfl ?_
                        unfold Oper.wp
                        go_simp
                        first | exact ⟨by first | (simp [upd]; done) | (simp [upd]; omega), hS⟩ | (simp [upd]; done) | (simp [upd]; omega)
                      · have e6 : f' 6 = .int .i64 (f : Int) := (hd ⟨6, .data⟩ (by simp) rfl).2
                        have e7 : f' 7 = .int .i64 (m : Int) := (hd ⟨7, .data⟩ (by simp) rfl).2
                        refine OpStep.of rfl ?_
                        unfold Oper.wp
                        go_simp
                        first | exact ⟨by first | (simp [upd, e6, e7]; done) | (simp [upd, e6, e7]; omega), hS⟩ | (simp [upd, e6, e7]; done) | (simp [upd, e6, e7]; omega)
                      · have e5 : f' 5 = .slice (some ⟨bk, 0, none⟩) 8 8 := (hd ⟨5, .data⟩ (by simp) rfl).2
                        have e8 : f' 8 = .int .i64 ((f : Int) + (m : Int)) := (hd ⟨8, .data⟩ (by simp) rfl).2
                        refine OpStep.of rfl ?_
                        unfold Oper.wp
                        go_simp
                        first | exact ⟨by first | (simp [upd, e5, e8]; done) | (simp [upd, e5, e8]; omega), hS⟩ | (simp [upd, e5, e8]; done) | (simp [upd, e5, e8]; omega)
                      · have e9 : f' 9 = .slice (some ⟨bk, 0, none⟩) 0 0 := (hd ⟨9, .data⟩ (by simp) rfl).2
                        refine OpStep.of rfl ?_
                        unfold Oper.wp
                        go_simp
                        refine (HJ2.out w' hS.out).mono ?_
                        rintro e w9 ⟨rfl, hb9⟩
                        exact ⟨by simp [upd, e9], Lib.hid (hS.out.trans (hb9.mono hS.out.size))⟩
                      · have e4 : f' 4 = .string (toB (J1 ++ [58, 58])) := (hd ⟨4, .data⟩ (by simp) rfl).2
                        have e10 : f' 10 = .string (toB J2) := (hd ⟨10, .data⟩ (by simp) rfl).2
                        refine OpStep.of rfl ?_
                        unfold Oper.wp
                        go_simp
                        simp [upd, e4, e10, HQ2.out]
                    · intro op ho lb f' w' hd hS
                      have e11 : f' 11 = .string (toB (J1 ++ [58, 58] ++ J2)) := (hd 11 (by omega)).2
                      replace ho := Option.some.inj ho
                      subst ho
                      refine ⟨rfl, ?_⟩
                      unfold Oper.wp
                      go_simp
                      first | (go_step; go_step; go_meet) | (go_step; go_meet) | go_meet | skip
                      exact ⟨by simp, hS.out⟩
                  · have HJ2 := Lib.hid (HJ2.out (f + m) (cap - (f + m)) (.inr rfl) (by omega))
                    have k2 : (f : Int) + (m : Int) ≤ 8 := by omega
                    have k3 : f + m ≤ cap := by omega
                    refine wp_region_exact 12 (fun f' => ⟨#[.agg #[Value.bool true, Value.int IntKind.u64 hi, Value.int IntKind.u64 lo], .pointer (some ⟨w.heap.size, 0, none⟩), u2, undef, undef, undef, undef, .slice (some ⟨bk, 0, none⟩) 8 cap, undef, u9, .int .i64 m, .int .i64 f, .pointer (some ⟨w.heap.size, 0, none⟩), .bool true, .bool false, undef, undef, undef, undef, undef, undef, undef, undef, undef, undef, undef, undef, undef, undef, undef, undef, undef, undef, undef, undef, undef, undef, undef, undef, undef, undef, undef, undef, .agg #[Value.bool true, Value.int IntKind.u64 hi, Value.int IntKind.u64 lo], .slice A 8 gcap, .int .i64 8, .int .i64 8, .bool false, u48, u49, u50, u51, u52, u53, u54, u55, .int .i64 m, .bool true, u58, u59, .int .i64 f, .int .i64 m, .int .i64 (↑f + ↑m), .bool true, u64, u65, .slice (some ⟨bk, 0, none⟩) 8 cap, .int .i64 f, .int .i64 f, .int .i64 m, .int .i64 (↑f + ↑m), .slice (some ⟨bk, f, none⟩) m (cap - f), .bool false, .bool true, f' 0, f' 1, f' 2, f' 3, f' 4, f' 5, f' 6, f' 7, f' 8, f' 9, f' 10, f' 11, undef, undef], []⟩) (fun i => match i with | 0 => .slice (some ⟨bk, 0, none⟩) 8 cap | 1 => .int .i64 (f : Int) | 2 => .slice (some ⟨bk, 0, none⟩) f cap | 3 => .string (toB J1) | 4 => .string (toB (J1 ++ [58, 58])) | 5 => .slice (some ⟨bk, 0, none⟩) 8 cap | 6 => .int .i64 (f : Int) | 7 => .int .i64 (m : Int) | 8 => .int .i64 ((f : Int) + (m : Int)) | 9 => .slice (some ⟨bk, (f + m), none⟩) (8 - (f + m)) (cap - (f + m)) | 10 => .string (toB J2) | 11 => .string (toB (J1 ++ [58, 58] ++ J2)) | _ => undef) (fun lb w' => Hid (Below W6.heap.size W6 w')) (fun i => match i with | 0 => u74 | 1 => u75 | 2 => u76 | 3 => u77 | 4 => u78 | 5 => u79 | 6 => u80 | 7 => u81 | 8 => u82 | 9 => u83 | 10 => u84 | 11 => u85 | _ => undef) 10 (show Tryz.prog.follows .mixedOrders = true from by kernel_rfl) (by kernel_rfl) ?_ ?_ (Lib.hid HB8.out.drew)
                    · intro i op hi ho lb f' w' hl hS hd
                      have hcase : i = 0 ∨ i = 1 ∨ i = 2 ∨ i = 3 ∨ i = 4 ∨ i = 5 ∨ i = 6 ∨ i = 7 ∨ i = 8 ∨ i = 9 ∨ i = 10 ∨ i = 11 := by omega
                      rcases hcase with rfl | rfl | rfl | rfl | rfl | rfl | rfl | rfl | rfl | rfl | rfl | rfl <;> (replace ho := Option.some.inj ho; subst ho)
                      · refine OpStep.of rfl ?_
                        unfold Oper.wp
                        go_simp
                        first | exact ⟨by first | (simp [upd]; done) | (simp [upd]; omega), hS⟩ | (simp [upd]; done) | (simp [upd]; omega)
                      · refine OpStep.of rfl ?_
                        unfold Oper.wp
                        go_simp
                        first | exact ⟨by first | (simp [upd]; done) | (simp [upd]; omega), hS⟩ | (simp [upd]; done) | (simp [upd]; omega)
                      · have e0 : f' 0 = .slice (some ⟨bk, 0, none⟩) 8 cap := (hd ⟨0, .data⟩ (by simp) rfl).2
                        have e1 : f' 1 = .int .i64 (f : Int) := (hd ⟨1, .data⟩ (by simp) rfl).2
                        refine OpStep.of rfl ?_
                        unfold Oper.wp
                        go_simp
                        first | exact ⟨by first | (simp [upd, e0, e1]; done) | (simp [upd, e0, e1]; omega), hS⟩ | (simp [upd, e0, e1]; done) | (simp [upd, e0, e1]; omega)
                      · have e2 : f' 2 = .slice (some ⟨bk, 0, none⟩) f cap := (hd ⟨2, .data⟩ (by simp) rfl).2
                        refine OpStep.of rfl ?_
                        unfold Oper.wp
                        go_simp
                        refine (HJ1.out w' hS.out).mono ?_
                        rintro e w9 ⟨rfl, hb9⟩
                        exact ⟨by simp [upd, e2], Lib.hid (hS.out.trans (hb9.mono hS.out.size))⟩
                      · have e3 : f' 3 = .string (toB J1) := (hd ⟨3, .data⟩ (by simp) rfl).2
                        refine OpStep.of rfl ?_
                        unfold Oper.wp
                        go_simp
                        simp [upd, e3, HQ1.out]
                      · refine OpStep.of rfl ?_
                        unfold Oper.wp
                        go_simp
                        first | exact ⟨by first | (simp [upd]; done) | (simp [upd]; omega), hS⟩ | (simp [upd]; done) | (simp [upd]; omega)
                      · refine OpStep.of rfl ?_
                        unfold Oper.wp
                        go_simp
                        first | exact ⟨by first | (simp [upd]; done) | (simp [upd]; omega), hS⟩ | (simp [upd]; done) | (simp [upd]; omega)
                      · refine OpStep.of rfl ?_
                        unfold Oper.wp
                        go_simp
                        first | exact ⟨by first | (simp [upd]; done) | (simp [upd]; omega), hS⟩ | (simp [upd]; done) | (simp [upd]; omega)
                      · have e6 : f' 6 = .int .i64 (f : Int) := (hd ⟨6, .data⟩ (by simp) rfl).2
                        have e7 : f' 7 = .int .i64 (m : Int) := (hd ⟨7, .data⟩ (by simp) rfl).2
                        refine OpStep.of rfl ?_
                        unfold Oper.wp
                        go_simp
                        first | exact ⟨by first | (simp [upd, e6, e7]; done) | (simp [upd, e6, e7]; omega), hS⟩ | (simp [upd, e6, e7]; done) | (simp [upd, e6, e7]; omega)
                      · have e5 : f' 5 = .slice (some ⟨bk, 0, none⟩) 8 cap := (hd ⟨5, .data⟩ (by simp) rfl).2
                        have e8 : f' 8 = .int .i64 ((f : Int) + (m : Int)) := (hd ⟨8, .data⟩ (by simp) rfl).2
                        refine OpStep.of rfl ?_
                        unfold Oper.wp
                        go_simp
                        first | exact ⟨by first | (simp [upd, e5, e8]; done) | (simp [upd, e5, e8]; omega), hS⟩ | (simp [upd, e5, e8]; done) | (simp [upd, e5, e8]; omega)
                      · have e9 : f' 9 = .slice (some ⟨bk, (f + m), none⟩) (8 - (f + m)) (cap - (f + m)) := (hd ⟨9, .data⟩ (by simp) rfl).2
                        refine OpStep.of rfl ?_
                        unfold Oper.wp
                        go_simp
                        refine (HJ2.out w' hS.out).mono ?_
                        rintro e w9 ⟨rfl, hb9⟩
                        exact ⟨by simp [upd, e9], Lib.hid (hS.out.trans (hb9.mono hS.out.size))⟩
                      · have e4 : f' 4 = .string (toB (J1 ++ [58, 58])) := (hd ⟨4, .data⟩ (by simp) rfl).2
                        have e10 : f' 10 = .string (toB J2) := (hd ⟨10, .data⟩ (by simp) rfl).2
                        refine OpStep.of rfl ?_
                        unfold Oper.wp
                        go_simp
                        simp [upd, e4, e10, HQ2.out]
                    · intro op ho lb f' w' hd hS
                      have e11 : f' 11 = .string (toB (J1 ++ [58, 58] ++ J2)) := (hd 11 (by omega)).2
                      replace ho := Option.some.inj ho
                      subst ho
                      refine ⟨rfl, ?_⟩
                      unfold Oper.wp
                      go_simp
                      first | (go_step; go_step; go_meet) | (go_step; go_meet) | go_meet | skip
                      exact ⟨by simp, hS.out⟩
                case rest =>
                  obtain ⟨rfl, hb9⟩ := hcut
                  have HF := Lib.hid (HBk.out.trans (hb9.mono HBk.out.size))
                  clear hb9
                  go_wp2_with fail
                  go_ret
                  exact ⟨_, HZT.out, rfl, HF.out⟩
                -- END23
              · go_wp2_with fail
                go_roundw
                case rel =>
                  exact ⟨_, _, _, _, _, _, _, _, _, _, _, _, _, _, _, _, _, _, _, _, _, _, _, _, _, _, _, _, ⟨f + 1, by omega, by go_num, HB8.out⟩, rfl⟩
                case measure => simp [intOf]; omega
            · have d2 : decide ((f : Int) + (m : Int) ≤ 8) = false := by simp; omega
              go_wp2_with fail
              exact ⟨⟨m - 1, by omega, by omega, by go_num, HB7.out⟩, by simp [intOf]; omega⟩
        · have d1 : decide ((2 : Int) ≤ (m : Int)) = false := by simp; omega
          have hsz := join_le 58 4 _ HWL.out
          rw [HW8.out] at hsz
          have hj := join_any (some ⟨bk, 0, none⟩) cap xs 58 wr (HSS.out.below hb6) (by rw [HW8.out]; exact hcap) (by rw [HW8.out]; omega) (by omega)
          rw [HW8.out] at hj
          have HJL : Hid ((toB (Lib.join xs [58])).size ≤ 200) := Lib.hid (by show (Lib.join xs [58]).toArray.size ≤ 200; simp; omega)
          have HB6 := Lib.hid (HBk.out.trans (hb6.mono HBk.out.size))
          clear hsz hb6
          go_wp2_with fail
          refine hj.mono ?_
          rintro e w7 ⟨rfl, hb7⟩
          have HF := Lib.hid (HB6.out.trans (hb7.mono HB6.out.size))
          clear hj hb7
          go_wp2_with fail
          go_ret
          exact ⟨_, HJL.out, rfl, HF.out⟩
theorem addrText_any (six : Bool) (hi lo : Int) (w : World) (V : NmVars w) (hh : 0 ≤ hi ∧ hi ≤ 18446744073709551615) (hl : 0 ≤ lo ∧ lo ≤ 18446744073709551615) :
    Calls Tryz.prog 28 #[.agg #[.bool six, .int .u64 hi, .int .u64 lo]] w (AtOut w) := by
  cases six
  · exact addrText_four hi lo w V hh hl
  · exact addrText_six hi lo w V hh hl
end Go.Proofs.YtcicednopgpjfaaGreatDoor
