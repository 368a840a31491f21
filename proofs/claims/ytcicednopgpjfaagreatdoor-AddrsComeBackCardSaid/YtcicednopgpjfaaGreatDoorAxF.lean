/- strings.Split at any string; addr.four at any string. -/
import Derived.Test.YtcicednopgpjfaaGreatDoorAxE
namespace Go.Hw
open Go.Lib
theorem splitB_eqc {s : ByteArray} (c : UInt8) {xs : List (List UInt8)} (h : split s.data.toList [c] = xs) : splitB ⟨#[c]⟩ 0 (countB s ⟨#[c]⟩) s = xs.map toB := by
  have h1 := splitB_data ⟨#[c]⟩ 0 (countB s ⟨#[c]⟩) s
  have h2 : (splitB ⟨#[c]⟩ 0 (countB s ⟨#[c]⟩) s).map (·.data.toList) = xs := by rw [h1, ← h]; rfl
  rw [← h2, List.map_map]
  conv => lhs; rw [← List.map_id (splitB ⟨#[c]⟩ 0 (countB s ⟨#[c]⟩) s)]
  rfl
theorem split_lenc {s : ByteArray} (c : UInt8) {xs : List (List UInt8)} (h : split s.data.toList [c] = xs) : countB s ⟨#[c]⟩ + 1 = xs.length := by
  have h1 := splitB_all ⟨#[c]⟩ (by exact Nat.one_pos) 0 _ s rfl
  rw [splitB_eqc c h, List.length_map] at h1
  exact h1.symm
theorem splitK_le (sep : List UInt8) : ∀ (n : Nat) (s : List UInt8), ∀ x ∈ splitK sep 0 n s, x.length ≤ s.length
  | 0, s, x, hx => by
    simp [splitK] at hx
    rw [hx]
    exact Nat.le_refl _
  | n + 1, s, x, hx => by
    rw [splitK] at hx
    split at hx
    · simp at hx
      rw [hx]
      exact Nat.le_refl _
    · rcases List.mem_cons.1 hx with rfl | hx
      · rw [List.length_take]; omega
      · have := splitK_le sep n _ x hx
        rw [List.length_drop] at this
        omega
end Go.Hw
namespace Go.Proofs.YtcicednopgpjfaaGreatDoor
open Go.RowKit Go.Hw Go.Shelf

theorem split_any (s : ByteArray) (c : UInt8) (w : World) (V : NmVars w) (hs : s.size ≤ 100000) :
    Calls Tryz.prog 42 #[.string s, .string ⟨#[c]⟩] w fun e w' => e = .returned (.slice (some ⟨w.heap.size, 0, none⟩) (Lib.split s.data.toList [c]).length (Lib.split s.data.toList [c]).length) ∧ w' = w.alloc (.cells (((Lib.split s.data.toList [c]).map toB).map Value.string).toArray 9) := by
  obtain ⟨m, hm⟩ := V.mx
  have h := Tryz.strings_Split s ⟨#[c]⟩ m w (by omega) hm (by exact Nat.one_pos)
  rw [splitB_eqc c rfl, split_lenc c rfl] at h
  exact h
theorem strs_cell {w : World} (xs : List (List UInt8)) {k : Nat} (hk : k < xs.length) : (w.alloc (.cells ((xs.map toB).map Value.string).toArray 9)).cell? ⟨w.heap.size, k, none⟩ = some (.string (toB (xs.getD k []))) := by
  refine (cell_of (heap_alloc_new w _) k).trans ?_
  simp [List.getD_eq_getElem?_getD, hk]
/-- A word of an address with points. -/
def fourW (w : List UInt8) : Bool := numOk w 3 && decide (0 ≤ numV w 3) && decide (numV w 3 ≤ 255)
def fourN (xs : List (List UInt8)) : Nat := xs.foldl (fun a w => a * 256 + (numV w 3).toNat) 0
/-- What four reads. -/
def fourF (s : List UInt8) : Option Nat := if (Lib.split s [46]).length = 4 ∧ (Lib.split s [46]).all fourW = true then some (fourN (Lib.split s [46])) else none
theorem fourN_snoc (xs : List (List UInt8)) (x : List UInt8) : fourN (xs ++ [x]) = fourN xs * 256 + (numV x 3).toNat := by simp [fourN]
theorem fourN_take (xs : List (List UInt8)) {k : Nat} (hk : k < xs.length) : fourN (xs.take (k + 1)) = fourN (xs.take k) * 256 + (numV (xs.getD k []) 3).toNat := by
  rw [List.take_succ_eq_append_getElem hk, fourN_snoc, List.getD_eq_getElem?_getD, List.getElem?_eq_getElem hk]
  rfl
theorem or_256 (a n : Nat) (ha : a * 256 < 18446744073709551616) (hn : n < 256) : bits .or .u64 (IntKind.u64.wrap ((a : Int) * 256)) (n : Int) = ((a * 256 + n : Nat) : Int) := by
  rw [IntWalk.u64_in _ (by omega)]
  have := u64_or_nat (a * 256) n ha (by omega)
  rw [Int.natCast_mul] at this
  rw [show ((256 : Nat) : Int) = 256 from rfl] at this
  rw [this, show a * 256 ||| n = a * 256 + n from by rw [show a * 256 = 2 ^ 8 * a by omega]; exact (Nat.two_pow_add_eq_or_of_lt hn a).symm]
set_option maxRecDepth 100000 in
set_option maxHeartbeats 2000000 in
theorem four_any (s : ByteArray) (w : World) (V : NmVars w) (hs : s.size ≤ 100000) :
    Calls Tryz.prog 20 #[.string s] w fun e w' => e = .returned (.tuple #[.int .u64 ((fourF s.data.toList).getD 0 : Nat), .bool (fourF s.data.toList).isSome]) ∧ Below w.heap.size w w' := by
  have hsp := split_any s 46 w V hs
  have HF : Hid (fourF s.data.toList = if (Lib.split s.data.toList [46]).length = 4 ∧ (Lib.split s.data.toList [46]).all fourW = true then some (fourN (Lib.split s.data.toList [46])) else none) := Lib.hid rfl
  have hwl : ∀ k, (toB ((Lib.split s.data.toList [46]).getD k [])).size ≤ 100000 := fun k => by
    by_cases hk : k < (Lib.split s.data.toList [46]).length
    · have hm : (Lib.split s.data.toList [46]).getD k [] ∈ Lib.split s.data.toList [46] := by
        rw [List.getD_eq_getElem?_getD, List.getElem?_eq_getElem hk]
        exact List.getElem_mem _
      have h1 := splitK_le [46] _ _ _ hm
      have h2 : s.data.toList.length = s.size := Array.length_toList
      have h3 : (toB ((Lib.split s.data.toList [46]).getD k [])).size = ((Lib.split s.data.toList [46]).getD k []).length := List.size_toArray
      omega
    · rw [List.getD_eq_getElem?_getD, List.getElem?_eq_none (by omega)]
      decide
  have HWL := Lib.hid hwl
  have HCL := Lib.hid (fun k hk => strs_cell (w := w) (Lib.split s.data.toList [46]) (k := k) hk)
  have hbl := heap_alloc_new w (.cells (((Lib.split s.data.toList [46]).map toB).map Value.string).toArray 9)
  have hB : Below w.heap.size w (w.alloc (.cells (((Lib.split s.data.toList [46]).map toB).map Value.string).toArray 9)) := (Below.refl _ _).alloc (Nat.le_refl _) _
  generalize Lib.split s.data.toList [46] = xs at *
  generalize (w.alloc (.cells ((xs.map toB).map Value.string).toArray 9)) = W1 at *
  have HB := Lib.hid hB
  have lW := lt_of_block hbl
  clear hbl hB hwl
  by_cases h4 : xs.length = 4
  · have HL := Lib.hid h4
    rw [h4] at hsp
    clear h4
    go_enter Tryz.func20, Tryz.ntmps20
    go_wp2_with fail
    refine hsp.mono ?_
    rintro e w' ⟨rfl, rfl⟩
    clear hsp
    go_wp2_with fail
    go_loopw [5, 7, 8, 9, 17] (fun v5 _ _ _ v17 wr => ∃ k a : Nat, k ≤ 4 ∧ v17 = .int .i64 k ∧ v5 = .int .u64 a ∧ Hid (fourN (xs.take k) = a) ∧ a < 256 ^ k ∧ Hid (∀ j, j < k → fourW (xs.getD j []) = true) ∧ Hid (Below w'.heap.size w' wr)) (fun _ _ _ _ v17 _ => 4 - (intOf v17).toNat)
    case atStart => exact ⟨0, 0, by omega, rfl, rfl, Lib.hid rfl, by decide, Lib.hid (fun j h => by omega), Lib.hid (Below.refl _ _)⟩
    case round =>
      obtain ⟨k, a, hk, rfl, rfl, HN, ha, HW, HBR⟩ := hrel
      by_cases hlt : k < 4
      · have d1 : decide ((k : Int) < 4) = true := by simp; omega
        have ha3 : a < 16777216 := Nat.lt_of_lt_of_le ha (by have : 256 ^ k ≤ 256 ^ 3 := Nat.pow_le_pow_right (by omega) (by omega); simpa using this)
        have c0 : wr.cell? ⟨w.heap.size, k, none⟩ = some (.string (toB (xs.getD k []))) := (HBR.out.cell (p := ⟨w.heap.size, k, none⟩) lW).trans (HCL.out k (by rw [HL.out]; exact hlt))
        have hnum := number_any (toB (xs.getD k [])) 3 (by omega) (HWL.out k)
        rw [toB_data] at hnum
        have HNT := Lib.hid (fourN_take xs (k := k) (by rw [HL.out]; exact hlt))
        have hfw : fourW (xs.getD k []) = (numOk (xs.getD k []) 3 && decide (0 ≤ numV (xs.getD k []) 3) && decide (numV (xs.getD k []) 3 ≤ 255)) := rfl
        have HFW := Lib.hid hfw
        have HGD := Lib.hid (show xs.getD k [] = xs.getD k [] from rfl)
        have HMEM : Hid (xs.getD k [] ∈ xs) := Lib.hid (by
          rw [List.getD_eq_getElem?_getD, List.getElem?_eq_getElem (show k < xs.length by rw [HL.out]; exact hlt)]
          exact List.getElem_mem _)
        generalize hx : xs.getD k [] = x at hnum HNT HFW HMEM c0
        obtain ⟨n, hn⟩ : ∃ n, numV x 3 = n := ⟨_, rfl⟩
        obtain ⟨ok, hok⟩ : ∃ ok, numOk x 3 = ok := ⟨_, rfl⟩
        rw [hn, hok] at hnum HFW
        rw [hn] at HNT
        have HX := Lib.hid hx
        clear hx hn hok hfw HGD
        go_wp2_with fail
        refine (hnum wr).mono ?_
        rintro e w2 ⟨rfl, hb2⟩
        have HB2 := Lib.hid (HBR.out.trans (hb2.mono HBR.out.size))
        clear hnum hb2 c0
        by_cases hok : ok = true
        · subst hok
          by_cases hn0 : 0 ≤ n
          · by_cases hn2 : n ≤ 255
            · obtain ⟨N, rfl⟩ : ∃ N : Nat, n = N := ⟨n.toNat, by omega⟩
              have e1 : decide ((N : Int) < 0) = false := by simp
              have e2 : decide ((N : Int) > 255) = false := by simp; omega
              have e3 : decide ((255 : Int) < (N : Int)) = false := by simp; omega
              have e4 : IntKind.u64.wrap (N : Int) = (N : Int) := IntWalk.u64_in _ (by omega)
              have hor : bits .or .u64 ((a : Int) * 256) (N : Int) = ((a * 256 + N : Nat) : Int) := by
                have h := or_256 a N (by omega) (by omega)
                rwa [IntWalk.u64_in _ (by omega)] at h
              have HX2 : Hid (fourW x = true) := Lib.hid (by rw [HFW.out]; simp; omega)
              have hpw : 256 ^ (k + 1) = 256 ^ k * 256 := Nat.pow_succ ..
              have ha2 : a * 256 + N < 256 ^ (k + 1) := by rw [hpw]; omega
              have HPW := Lib.hid ha2
              clear hpw ha2
              go_wp2_with fail
              exact ⟨⟨k + 1, a * 256 + N, by omega, by go_num, by first | rfl | (rw [hor]; done) | go_num, Lib.hid (by rw [HNT.out, HN.out]; simp), HPW.out, Lib.hid (fun j hj => by
                by_cases hjk : j = k
                · subst hjk; rw [HX.out]; exact HX2.out
                · exact HW.out j (by omega)), HB2⟩, by simp [intOf]; omega⟩
            · have e1 : decide (n < 0) = false := by simp; omega
              have e2 : decide (n > 255) = true := by simp; omega
              have e3 : decide ((255 : Int) < n) = true := by simp; omega
              have hall : xs.all fourW = false := by rw [List.all_eq_false]; exact ⟨x, HMEM.out, by rw [HFW.out]; simp; omega⟩
              have HR : Hid (fourF s.data.toList = none) := Lib.hid (by rw [HF.out, if_neg (by rw [hall]; simp)])
              clear hall
              go_wp2_with fail
              go_ret2
              exact ⟨by rw [HR.out]; rfl, HB.out.trans (HB2.out.mono HB.out.size)⟩
          · have e1 : decide (n < 0) = true := by simp; omega
            have hall : xs.all fourW = false := by rw [List.all_eq_false]; exact ⟨x, HMEM.out, by rw [HFW.out]; simp; omega⟩
            have HR : Hid (fourF s.data.toList = none) := Lib.hid (by rw [HF.out, if_neg (by rw [hall]; simp)])
            clear hall
            go_wp2_with fail
            go_ret2
            exact ⟨by rw [HR.out]; rfl, HB.out.trans (HB2.out.mono HB.out.size)⟩
        · have hok2 : ok = false := by simpa using hok
          subst hok2
          have hall : xs.all fourW = false := by rw [List.all_eq_false]; exact ⟨x, HMEM.out, by rw [HFW.out]; simp⟩
          have HR : Hid (fourF s.data.toList = none) := Lib.hid (by rw [HF.out, if_neg (by rw [hall]; simp)])
          clear hall
          go_wp2_with fail
          go_ret2
          exact ⟨by rw [HR.out]; rfl, HB.out.trans (HB2.out.mono HB.out.size)⟩
      · obtain rfl : k = 4 := by omega
        have d1 : decide ((4 : Int) < 4) = false := by decide
        have HR : Hid (fourF s.data.toList = some a) := Lib.hid (by
          rw [HF.out, if_pos ⟨HL.out, List.all_eq_true.2 (fun x hx => by
            obtain ⟨j, hj, rfl⟩ := List.getElem_of_mem hx
            have := HW.out j (by rw [← HL.out]; exact hj)
            rw [List.getD_eq_getElem?_getD, List.getElem?_eq_getElem hj] at this
            exact this)⟩, ← HN.out, List.take_of_length_le (by rw [HL.out]; omega)])
        clear hlt
        go_wp2_with fail
        go_ret2
        exact ⟨by rw [HR.out]; rfl, HB.out.trans (HBR.out.mono HB.out.size)⟩
  · have d1 : ((xs.length : Int) != 4) = true := by simp; omega
    have d2 : ((xs.length : Int) == 4) = false := by simp; omega
    have d3 : (xs.length == 4) = false := by simp; omega
    have HR : Hid (fourF s.data.toList = none) := Lib.hid (by rw [HF.out, if_neg (fun c => h4 c.1)])
    clear h4
    go_enter Tryz.func20, Tryz.ntmps20
    go_wp2_with fail
    refine hsp.mono ?_
    rintro e w' ⟨rfl, rfl⟩
    clear hsp
    go_wp2_with fail
    go_ret2
    exact ⟨by rw [HR.out]; rfl, HB.out⟩
end Go.Proofs.YtcicednopgpjfaaGreatDoor
