/- strconv.ParseUint at base 16, one to four digits, small or great letters. -/
import Derived.Test.YtcicednopgpjfaaGreatDoorAxF
import Derived.Lib.ConvBytes
import Derived.Lib.ParseIntBMem
namespace Go.Hw
/-- A hexadecimal digit, small or great. -/
def hexD (c : UInt8) : Bool := (decide (48 ≤ c.toNat) && decide (c.toNat ≤ 57)) || (decide (97 ≤ c.toNat) && decide (c.toNat ≤ 102)) || (decide (65 ≤ c.toNat) && decide (c.toNat ≤ 70))
def hexV2 (c : UInt8) : Nat := if c.toNat ≤ 57 then c.toNat - 48 else if 97 ≤ c.toNat then c.toNat - 87 else c.toNat - 55
def hexP2 (x : List UInt8) : Nat := x.foldl (fun a c => a * 16 + hexV2 c) 0
theorem hexP2_snoc (x : List UInt8) (c : UInt8) : hexP2 (x ++ [c]) = hexP2 x * 16 + hexV2 c := by simp [hexP2]
theorem hexP2_take (x : List UInt8) {k : Nat} (hk : k < x.length) : hexP2 (x.take (k + 1)) = hexP2 (x.take k) * 16 + hexV2 x[k] := by
  rw [List.take_succ_eq_append_getElem hk, hexP2_snoc]
theorem hexD_cases (c : UInt8) (h : hexD c = true) : (48 ≤ c.toNat ∧ c.toNat ≤ 57 ∧ hexV2 c = c.toNat - 48) ∨ (97 ≤ c.toNat ∧ c.toNat ≤ 102 ∧ hexV2 c = c.toNat - 87) ∨ (65 ≤ c.toNat ∧ c.toNat ≤ 70 ∧ hexV2 c = c.toNat - 55) := by
  simp [hexD] at h
  rcases h with (h | h) | h
  · exact .inl ⟨h.1, h.2, if_pos h.2⟩
  · exact .inr (.inl ⟨h.1, h.2, by unfold hexV2; rw [if_neg (by omega), if_pos h.1]⟩)
  · exact .inr (.inr ⟨h.1, h.2, by unfold hexV2; rw [if_neg (by omega), if_neg (by omega)]⟩)
theorem hexV2_lt (c : UInt8) (h : hexD c = true) : hexV2 c < 16 := by rcases hexD_cases c h with h | h | h <;> omega
theorem or32_small : ∀ d : Fin 6, bits .or .u8 ((97 + d.val : Nat) : Int) 32 = ((97 + d.val : Nat) : Int) := by decide +kernel
theorem or32_great : ∀ d : Fin 6, bits .or .u8 ((65 + d.val : Nat) : Int) 32 = ((97 + d.val : Nat) : Int) := by decide +kernel
end Go.Hw
namespace Go.Proofs.YtcicednopgpjfaaGreatDoor
open Go.RowKit Go.Hw Go.Shelf

set_option maxRecDepth 100000 in
set_option maxHeartbeats 4000000 in
theorem parseIn16 (x : List UInt8) (h1 : 1 ≤ x.length) (h4 : x.length ≤ 4) (hx : ∀ c ∈ x, hexD c = true) (w : World) :
    Calls Tryz.prog 86 #[.string (toB x), .int .i64 16, .int .i64 64] w fun e w' => e = .returned (.tuple #[.int .u64 (hexP2 x), .nilIface]) ∧ Below w.heap.size w w' := by
  have t9 := Tryz.underlying9; have t37 := Tryz.underlying91; have t5 := Tryz.underlying5
  have hcv := Lib.run_convert_string_bytes (P := Tryz.prog) w 9 91 5 (toB x) (u := .string) t9 t37 t5
  have hs : (toB x).size = x.length := List.size_toArray
  have hB : ∀ j (hj : j < x.length), (Lib.bytesWorld w 5 (toB x)).cell? ⟨w.heap.size, j, none⟩ = some (.int .u8 (x[j].toNat : Int)) := fun j hj => by
    have h := Lib.bytesWorld_cell w 5 (toB x) j (by rw [hs]; exact hj)
    rw [toB_data] at h
    rw [h]
    simp [List.getD_eq_getElem?_getD, hj]
  have hb := Lib.bytesWorld_below w 5 (toB x)
  have hemp : (toB x).toList.isEmpty = false := by
    rw [← decide_eq_emptyBytes]
    exact decide_eq_false (fun h => by rw [h] at hs; have : x.length = 0 := hs.symm; omega)
  rw [hs] at hcv
  have HXT := Lib.hid (fun k hk => hexP2_take x (k := k) hk)
  have HXA := Lib.hid (List.take_of_length_le (Nat.le_refl x.length))
  have HS := Lib.hid hs
  have HX := Lib.hid hx
  have HBB := Lib.hid hB
  have HBL := Lib.hid hb
  generalize Lib.bytesWorld w 5 (toB x) = W1 at *
  generalize grownCap w x.length 0 5 = cap at *
  generalize toB x = s at *
  have hmv : IntKind.u64.wrap (IntKind.u64.wrap 18446744073709551616 - 1) = 18446744073709551615 := by decide
  clear t9 t37 t5 hs hx hB hb
  go_enter Tryz.func86, Tryz.ntmps86
  go_wp2_with fail
  go_loop [12, 13, 101] (fun vu vn vi => vu = .bool false ∧ ∃ k n : Nat, k ≤ x.length ∧ vi = .int .i64 k ∧ vn = .int .u64 n ∧ Hid (hexP2 (x.take k) = n) ∧ n < 16 ^ k) (fun _ _ vi => x.length - (intOf vi).toNat)
  case atStart => exact ⟨rfl, 0, 0, by omega, rfl, rfl, Lib.hid rfl, by decide⟩
  case round =>
    obtain ⟨rfl, k, n, hk, rfl, rfl, HN, hn⟩ := hrel
    by_cases hlt : k < x.length
    · have d1 : decide ((k : Int) < (x.length : Int)) = true := by simp; omega
      have hn4 : n < 4096 := Nat.lt_of_lt_of_le hn (by have : 16 ^ k ≤ 16 ^ 3 := Nat.pow_le_pow_right (by omega) (by omega); simpa using this)
      have hni : (n : Int) ≤ 4095 := by omega
      have hcut : decide ((n : Int) ≥ 1152921504606846976) = false := by simp; omega
      have hcut2 : decide ((1152921504606846976 : Int) ≤ (n : Int)) = false := by simp; omega
      have hki : (k : Int) < (x.length : Int) := by omega
      have HST := Lib.hid (HXT.out k hlt)
      have c0 := HBB.out k hlt
      have hdc := hexD_cases x[k] (HX.out _ (List.getElem_mem hlt))
      have hpw : 16 ^ (k + 1) = 16 ^ k * 16 := Nat.pow_succ ..
      have hbd : ∀ d : Nat, d < 16 → n * 16 + d < 16 ^ (k + 1) := fun d hd => by rw [hpw]; omega
      have HBD := Lib.hid hbd
      generalize x[k] = c at HST c0 hdc
      generalize hexV2 c = d at HST hdc
      obtain ⟨cn, hcn⟩ : ∃ cn, cn = c.toNat := ⟨_, rfl⟩
      rw [← hcn] at c0 hdc
      clear hcn hpw hbd hn
      rcases hdc with ⟨g1, g2, g3⟩ | ⟨g1, g2, g3⟩ | ⟨g1, g2, g3⟩
      · obtain rfl : cn = 48 + d := by omega
        have hd10 : d < 10 := by omega
        clear g1 g2 g3
        go_wp2_with fail
        exact ⟨⟨rfl, k + 1, n * 16 + d, by omega, by go_num, by congr 1; omega, Lib.hid (by rw [HST.out, HN.out]), HBD.out d (by omega)⟩, by simp [intOf]; omega⟩
      · obtain rfl : cn = 87 + d := by omega
        have hd10 : 10 ≤ d := by omega
        have hd16 : d < 16 := by omega
        have h87 : bits .or .u8 (87 + (d : Int)) 32 = 87 + (d : Int) := by
          have := or32_small ⟨d - 10, by omega⟩
          rw [show (97 + (⟨d - 10, by omega⟩ : Fin 6).val : Nat) = 87 + d by show 97 + (d - 10) = 87 + d; omega] at this
          simpa using this
        have hlo : ∀ W, Calls Tryz.prog 139 #[.int .u8 (87 + (d : Int))] W fun e w' => e = .returned (.int .u8 (87 + (d : Int))) ∧ w' = W := fun W => (Tryz.internal_strconv_lower _ _).mono (fun e w' h => by rw [h87] at h; exact h)
        clear g1 g2 g3 h87
        go_wp2_with fail
        refine (hlo _).mono ?_
        rintro e w' ⟨rfl, rfl⟩
        go_wp2_with fail
        iterate 2 (refine (hlo _).mono ?_; rintro e w' ⟨rfl, rfl⟩; go_wp2_with fail)
        exact ⟨⟨rfl, k + 1, n * 16 + d, by omega, by go_num, by congr 1; omega, Lib.hid (by rw [HST.out, HN.out]), HBD.out d (by omega)⟩, by simp [intOf]; omega⟩
      · obtain rfl : cn = 55 + d := by omega
        have hd10 : 10 ≤ d := by omega
        have hd16 : d < 16 := by omega
        have h87 : bits .or .u8 (55 + (d : Int)) 32 = 87 + (d : Int) := by
          have := or32_great ⟨d - 10, by omega⟩
          rw [show (65 + (⟨d - 10, by omega⟩ : Fin 6).val : Nat) = 55 + d by show 65 + (d - 10) = 55 + d; omega, show (97 + (⟨d - 10, by omega⟩ : Fin 6).val : Nat) = 87 + d by show 97 + (d - 10) = 87 + d; omega] at this
          simpa using this
        have hlo : ∀ W, Calls Tryz.prog 139 #[.int .u8 (55 + (d : Int))] W fun e w' => e = .returned (.int .u8 (87 + (d : Int))) ∧ w' = W := fun W => (Tryz.internal_strconv_lower _ _).mono (fun e w' h => by rw [h87] at h; exact h)
        clear g1 g2 g3 h87
        go_wp2_with fail
        refine (hlo _).mono ?_
        rintro e w' ⟨rfl, rfl⟩
        go_wp2_with fail
        iterate 2 (refine (hlo _).mono ?_; rintro e w' ⟨rfl, rfl⟩; go_wp2_with fail)
        exact ⟨⟨rfl, k + 1, n * 16 + d, by omega, by go_num, by congr 1; omega, Lib.hid (by rw [HST.out, HN.out]), HBD.out d (by omega)⟩, by simp [intOf]; omega⟩
    · obtain rfl : k = x.length := by omega
      have d1 : decide ((x.length : Int) < (x.length : Int)) = false := by simp
      have HF : Hid (hexP2 x = n) := Lib.hid (by rw [← HN.out, HXA.out])
      clear hlt
      go_wp2_with fail
      exact bodyPost_ret (v := .tuple #[.int .u64 n, .nilIface]) (by simp [results, Tryz.results86, go_sem]) rfl ⟨by rw [HF.out], HBL.out⟩
set_option maxRecDepth 100000 in
theorem parse16 (x : List UInt8) (h1 : 1 ≤ x.length) (h4 : x.length ≤ 4) (hx : ∀ c ∈ x, hexD c = true) (w : World) :
    Calls Tryz.prog 45 #[.string (toB x), .int .i64 16, .int .i64 64] w fun e w' => e = .returned (.tuple #[.int .u64 (hexP2 x), .nilIface]) ∧ Below w.heap.size w w' := by
  have h1 := parseIn16 x h1 h4 hx w
  generalize toB x = s at *
  generalize hexP2 x = n at *
  go_enter Tryz.func45, Tryz.ntmps45
  go_wp2_with fail
  refine h1.mono ?_
  rintro e w2 ⟨rfl, hb⟩
  go_wp2_with fail
  refine bodyPost_ret (v := .tuple #[.int .u64 n, .nilIface]) (by simp [results, Tryz.results45, go_sem]) rfl ⟨rfl, hb⟩
end Go.Proofs.YtcicednopgpjfaaGreatDoor
