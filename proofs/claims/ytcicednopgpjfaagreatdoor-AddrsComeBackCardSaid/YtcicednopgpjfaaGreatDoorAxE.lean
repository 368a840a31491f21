/- kit.Number at any string. -/
import Derived.Test.YtcicednopgpjfaaGreatDoorAxD
import Derived.Test.YtcicednopgpjfaaGreatDoorKey
import Derived.Lib.AtoiErrMem
import Derived.Lib.Strings
import Derived.BigQuiet
namespace Go.Proofs.YtcicednopgpjfaaGreatDoor
open Go.RowKit Go.Hw Go.Shelf

def digB (c : UInt8) : Bool := decide (48 ≤ c.toNat) && decide (c.toNat ≤ 57)
def numD (s : List UInt8) : List UInt8 := Lib.trimPrefix s [45]
/-- Is it a number of at most so many digits, as it is written? -/
def numOk (s : List UInt8) (most : Nat) : Bool := !(numD s).isEmpty && decide ((numD s).length ≤ most) && !((numD s).head? == some 48 && !(s == [48])) && (numD s).all digB
def numV (s : List UInt8) (most : Nat) : Int := if numOk s most then (Lib.atoi s).getD 0 else 0
theorem decFrom_some : ∀ (l : List UInt8) (acc : Nat), (∀ c ∈ l, digB c = true) → ∃ m, Lib.decFrom acc l = some m
  | [], acc, _ => ⟨acc, rfl⟩
  | c :: l, acc, h => by
    have hc := h c (by simp)
    simp [digB] at hc
    have hd : ∃ d, Lib.digitVal c = some d := by
      unfold Lib.digitVal
      simp
      omega
    obtain ⟨d, hd⟩ := hd
    obtain ⟨m, hm⟩ := decFrom_some l (acc * 10 + d) (fun x hx => h x (List.mem_cons_of_mem _ hx))
    exact ⟨m, by rw [Lib.decFrom, hd]; exact hm⟩
theorem atoi_num (s : List UInt8) (h0 : numD s ≠ []) (h : ∀ c ∈ numD s, digB c = true) : ∃ n, Lib.atoi s = some n := by
  rcases s with _ | ⟨b, r⟩
  · simp [numD, Lib.trimPrefix] at h0
  · by_cases hb : b = 45
    · subst hb
      have hd : numD (45 :: r) = r := by simp [numD, Lib.trimPrefix, Lib.hasPrefix]
      rw [hd] at h h0
      obtain ⟨m, hm⟩ := decFrom_some r 0 h
      exact ⟨-(m : Int), by simp [Lib.atoi, Lib.decNat, h0, hm]⟩
    · have hd : numD (b :: r) = b :: r := by simp [numD, Lib.trimPrefix, Lib.hasPrefix, Ne.symm hb]
      rw [hd] at h
      have hc := h b (by simp)
      have h43 : b ≠ 43 := by rintro rfl; revert hc; decide
      obtain ⟨m, hm⟩ := decFrom_some (b :: r) 0 h
      exact ⟨(m : Int), by simp [Lib.atoi, Lib.decNat, hb, h43, hm]⟩
theorem numD_len (s : List UInt8) : s.length ≤ (numD s).length + 1 := by
  unfold numD Lib.trimPrefix
  split
  · simp; omega
  · omega
set_option maxRecDepth 100000 in
set_option maxHeartbeats 2000000 in
theorem number_any (s : ByteArray) (most : Nat) (hm : most ≤ 17) (hs : s.size ≤ 100000) (w : World) :
    Calls Tryz.prog 25 #[.string s, .int .i64 most] w fun e w' => e = .returned (.tuple #[.int .i64 (numV s.data.toList most), .bool (numOk s.data.toList most)]) ∧ Below w.heap.size w w' := by
  have htp := Tryz.strings_TrimPrefix s ⟨#[45]⟩ w
  have HD := Lib.hid (show Lib.trimPrefix s.data.toList [45] = numD s.data.toList from rfl)
  rw [show (⟨#[45]⟩ : ByteArray).data.toList = [45] from rfl, HD.out] at htp
  have hdl : (numD s.data.toList).length ≤ s.data.toList.length := Lib.trimPrefix_le _ _
  have hVN : numOk s.data.toList most = false → numV s.data.toList most = 0 := fun h => by unfold numV; rw [h]; rfl
  have HVN := Lib.hid hVN
  have HOK : Hid (numOk s.data.toList most = (!(numD s.data.toList).isEmpty && decide ((numD s.data.toList).length ≤ most) && !((numD s.data.toList).head? == some 48 && !(s.data.toList == [48])) && (numD s.data.toList).all digB)) := Lib.hid rfl
  obtain ⟨D, hD⟩ : ∃ D : ByteArray, (⟨(numD s.data.toList).toArray⟩ : ByteArray) = D := ⟨_, rfl⟩
  have hDl : D.data.toList = numD s.data.toList := by rw [← hD]
  have HDL := Lib.hid hDl
  have hsz : D.size = (numD s.data.toList).length := by rw [← hD]; exact List.size_toArray
  have hsl : s.data.toList.length = s.size := Array.length_toList
  rw [hD] at htp
  rw [← HDL.out] at hsz hdl
  have hle : D.size ≤ 100000 := by omega
  have HSZ := Lib.hid hsz
  clear hD hDl hVN hsz hdl hsl
  by_cases h0 : D.size = 0
  · have he : D.toList = [] := toList_nil h0
    have hno : numOk s.data.toList most = false := by
      rw [HOK.out, ← HDL.out]
      have : D.data.toList = [] := List.length_eq_zero_iff.1 (by rw [← HSZ.out]; exact h0)
      rw [this]
      rfl
    have HNO := Lib.hid hno
    clear hno
    go_enter Tryz.func25, Tryz.ntmps25
    go_wp2_with fail
    refine htp.mono ?_
    rintro e w' ⟨rfl, rfl⟩
    go_wp2_with fail
    go_ret2
    exact ⟨by rw [HNO.out, HVN.out HNO.out]; rfl, Below.refl _ _⟩
  have he : D.toList.isEmpty = false := by
    cases hc : D.toList with
    | nil => exact absurd (size_of_nil hc) h0
    | cons x l => rfl
  have he2 : ¬ D.toList = [] := by intro c; rw [c] at he; simp at he
  by_cases h1 : most < D.size
  · have d1 : decide ((D.size : Int) > (most : Int)) = true := by simp; omega
    have d2 : decide (most < D.size) = true := by simp; omega
    have hno : numOk s.data.toList most = false := by
      rw [HOK.out, ← HDL.out]
      have : decide (D.data.toList.length ≤ most) = false := by simp; rw [← HSZ.out] at *; omega
      rw [this]
      simp
    have HNO := Lib.hid hno
    clear hno
    go_enter Tryz.func25, Tryz.ntmps25
    go_wp2_with fail
    refine htp.mono ?_
    rintro e w' ⟨rfl, rfl⟩
    go_wp2_with fail
    go_ret2
    exact ⟨by rw [HNO.out, HVN.out HNO.out]; rfl, Below.refl _ _⟩
  have d1 : decide ((D.size : Int) > (most : Int)) = false := by simp; omega
  have d2 : decide (most < D.size) = false := by simp; omega
  have hp : 0 < D.size := by omega
  have hsl0 : s.toList = s.data.toList := ByteArray.toList_eq s
  have h18 : s.size ≤ 18 := by
    have h := numD_len s.data.toList
    rw [← HDL.out, ← HSZ.out] at h
    have : s.data.toList.length = s.size := Array.length_toList
    omega
  have hhd : D.data.toList.head? = some D[0] := by
    have : D.data.toList[0]? = some D[0] := by simp [ByteArray.getElem_eq_getElem_data]
    rw [List.head?_eq_getElem?]
    exact this
  obtain ⟨c0, hc0⟩ : ∃ c0 : UInt8, D[0] = c0 := ⟨_, rfl⟩
  rw [hc0] at hhd
  have HHD := Lib.hid hhd
  have HDS : Hid (∀ j (h : j < D.size), D[j] ∈ D.data.toList) := Lib.hid (fun j h => by
    rw [ByteArray.getElem_eq_getElem_data]
    exact Array.mem_toList_iff.2 (Array.getElem_mem _))
  have HAL : Hid ((∀ j (h : j < D.size), digB D[j] = true) → ∀ c ∈ D.data.toList, digB c = true) := Lib.hid (fun h c hc => by
    obtain ⟨j, hj, rfl⟩ := List.getElem_of_mem hc
    have hj' : j < D.size := Nat.lt_of_lt_of_eq hj Array.length_toList
    have := h j hj'
    rw [ByteArray.getElem_eq_getElem_data] at this
    simpa using this)
  have hemp : D.data.toList.isEmpty = false := by
    cases hc : D.data.toList with
    | nil => rw [hc] at hhd; cases hhd
    | cons x l => rfl
  have HEMP := Lib.hid hemp
  have hmost : decide (D.data.toList.length ≤ most) = true := by rw [← HSZ.out]; simp; omega
  have HMOST := Lib.hid hmost
  clear hhd hemp hmost
  by_cases hz : c0.toNat = 48 ∧ ¬ s.data.toList = [48]
  · have e48 : ((c0.toNat : Int) == 48) = true := by simp; omega
    have hnz : (s.toList == [48]) = false := by rw [hsl0]; simpa using hz.2
    have hno : numOk s.data.toList most = false := by
      rw [HOK.out, ← HDL.out, HHD.out]
      have h1 : (some c0 == some (48 : UInt8)) = true := by
        have : c0 = 48 := UInt8.toNat_inj.1 hz.1
        rw [this]; rfl
      rw [← hsl0, hnz, h1]
      simp
    have HNO := Lib.hid hno
    clear hno hz hsl0
    go_enter Tryz.func25, Tryz.ntmps25
    go_wp2_with fail
    refine htp.mono ?_
    rintro e w' ⟨rfl, rfl⟩
    go_wp2_with fail
    go_ret2
    exact ⟨by rw [HNO.out, HVN.out HNO.out]; rfl, Below.refl _ _⟩
  · have hor : (((c0.toNat : Int) == 48) = false) ∨ (((c0.toNat : Int) == 48) = true ∧ (s.toList == [48]) = true) := by
      by_cases h48 : c0.toNat = 48
      · refine .inr ⟨by simp; omega, ?_⟩
        rw [hsl0]
        by_cases hq : s.data.toList = [48]
        · rw [hq]; rfl
        · exact absurd ⟨h48, hq⟩ hz
      · refine .inl ?_
        simp
        omega
    have HMID : Hid ((!(D.data.toList.head? == some 48 && !(s.data.toList == [48]))) = true) := Lib.hid (by
      rw [HHD.out]
      by_cases h48 : c0.toNat = 48
      · have hq : s.data.toList = [48] := by
          by_cases hq : s.data.toList = [48]
          · exact hq
          · exact absurd ⟨h48, hq⟩ hz
        rw [hq]
        simp
      · have : c0 ≠ 48 := by rintro rfl; exact h48 rfl
        simp [this])
    have hhe := HEMP.out
    clear hz hsl0
    rcases hor with e48 | ⟨e48, hnz⟩
    all_goals
      go_enter Tryz.func25, Tryz.ntmps25
      go_wp2_with fail
      refine htp.mono ?_
      rintro e w' ⟨rfl, rfl⟩
      go_wp2_with fail
      clear hc0
      go_loopw [7] (fun v7 wr => wr = w' ∧ ∃ i : Nat, v7 = .int .i64 i ∧ i ≤ D.size ∧ Hid (∀ j (h : j < D.size), j < i → digB D[j] = true)) (fun v7 _ => D.size - (intOf v7).toNat)
      case atStart => exact ⟨rfl, 0, rfl, by omega, Lib.hid (fun j _ h => by omega)⟩
      case round =>
        obtain ⟨rfl, i, rfl, hi, HJ⟩ := hrel
        by_cases hlt : i < D.size
        · have d3 : decide ((i : Int) < (D.size : Int)) = true := by simp; omega
          have d4 : decide (i < D.size) = true := by simp; omega
          obtain ⟨c, hc⟩ : ∃ c : UInt8, D[i] = c := ⟨_, rfl⟩
          have HC := Lib.hid hc
          have hi2 : (i : Int) < (D.size : Int) := by omega
          by_cases hdg : digB c = true
          · have e3 : decide ((c.toNat : Int) < 48) = false := by simp [digB] at hdg; simp; omega
            have e4 : decide ((c.toNat : Int) > 57) = false := by simp [digB] at hdg; simp; omega
            have e5 : decide ((57 : Int) < (c.toNat : Int)) = false := by simp [digB] at hdg; simp; omega
            have e6 : decide (c.toNat < 48) = false := by simp [digB] at hdg; simp; omega
            have e7 : decide (57 < c.toNat) = false := by simp [digB] at hdg; simp; omega
            have HDG := Lib.hid hdg
            clear hdg
            go_wp2_with fail
            clear hc
            go_roundw
            case rel => exact ⟨trivial, i + 1, by go_num, by omega, Lib.hid (fun j h hji => by
              by_cases hj : j = i
              · subst hj; rw [HC.out]; exact HDG.out
              · exact HJ.out j h (by omega))⟩
            case measure => simp [intOf]; omega
          · have hno : numOk s.data.toList most = false := by
              rw [HOK.out, ← HDL.out]
              have : D.data.toList.all digB = false := by
                rw [List.all_eq_false]
                exact ⟨c, by rw [← HC.out]; exact HDS.out i hlt, hdg⟩
              rw [this]
              simp
            have HNO := Lib.hid hno
            have hdg2 : c.toNat < 48 ∨ 57 < c.toNat := by simp [digB] at hdg; omega
            clear hno hdg
            rcases hdg2 with h48 | h57
            · have e3 : decide ((c.toNat : Int) < 48) = true := by simp; omega
              have e6 : decide (c.toNat < 48) = true := by simp; omega
              go_wp2_with fail
              go_ret2
              exact ⟨by rw [HNO.out, HVN.out HNO.out]; rfl, Below.refl _ _⟩
            · have e3 : decide ((c.toNat : Int) < 48) = false := by simp; omega
              have e6 : decide (c.toNat < 48) = false := by simp; omega
              have e4 : decide ((c.toNat : Int) > 57) = true := by simp; omega
              have e5 : decide ((57 : Int) < (c.toNat : Int)) = true := by simp; omega
              have e7 : decide (57 < c.toNat) = true := by simp; omega
              go_wp2_with fail
              go_ret2
              exact ⟨by rw [HNO.out, HVN.out HNO.out]; rfl, Below.refl _ _⟩
        · have d3 : decide ((i : Int) < (D.size : Int)) = false := by simp; omega
          have d4 : decide (i < D.size) = false := by simp; omega
          have hall := HAL.out (fun j h => HJ.out j h (by omega))
          have hall2 : D.data.toList.all digB = true := List.all_eq_true.2 hall
          have hok : numOk s.data.toList most = true := by
            rw [HOK.out, ← HDL.out, HEMP.out, HMOST.out, HMID.out, hall2]
            rfl
          obtain ⟨n, hn⟩ := atoi_num s.data.toList (by rw [← HDL.out]; intro c; rw [c] at hhe; cases hhe) (by rw [← HDL.out]; exact hall)
          have HN : Hid (numV s.data.toList most = n) := Lib.hid (by unfold numV; rw [hok, hn]; rfl)
          have HNO := Lib.hid hok
          have hat := Tryz.strconv_Atoi s n h18 hn wr
          clear hall hall2 hok hn
          go_wp2_with fail
          refine hat.mono ?_
          rintro e w9 ⟨rfl, tt, rfl⟩
          have hbw := Lib.bytesWorld_below wr 5 tt
          have HBW := Lib.hid hbw
          generalize Lib.bytesWorld wr 5 tt = W9 at *
          clear hat hbw
          go_wp2_with fail
          go_quiet (fail)
          go_wp2_with fail
          go_ret2
          exact ⟨by rw [HNO.out, HN.out]; rfl, ⟨HBW.out.os, HBW.out.tape, HBW.out.output, HBW.out.size, HBW.out.block⟩⟩
end Go.Proofs.YtcicednopgpjfaaGreatDoor
