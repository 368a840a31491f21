/- strconv.ParseUint of one digit. -/
import Derived.Test.YtompamkhjikjlaaGreatDoorBaC
import Derived.Lib.AtoiErrMem
import Derived.Lib.ConvBytes
import Derived.Lib.ParseIntBMem
namespace Go.Proofs.YtompamkhjikjlaaGreatDoor
open Go.RowKit Go.Hw Go.Shelf

set_option maxRecDepth 100000 in
set_option maxHeartbeats 2000000 in
theorem parse10_any (v : Nat) (hv : v < 256) (w : World) :
    Calls Tryz.prog 16 #[.string (toB (Lib.decDigits v)), .int .i64 10, .int .i64 8] w fun e w' => e = .returned (.tuple #[.int .u64 v, .nilIface]) ∧ Below w.heap.size w w' := by
  obtain ⟨d0, d1, -, d2⟩ := dec_small ⟨v, hv⟩
  have hs : (toB (Lib.decDigits v)).size = (Lib.decDigits v).length := by simp [toB, ByteArray.size]
  have h1 := Tryz.internal_strconv_ParseUint_10_b8 (toB (Lib.decDigits v)) (by rw [hs]; intro h; exact d0 (List.length_eq_zero_iff.1 h)) (by rw [hs]; simp only [] at d1; omega) w
  rw [toB_data, show Lib.parseUintM 255 0 (Lib.decDigits v) = .ok v from d2] at h1
  have hb := Lib.bytesWorld_below w 5 (toB (Lib.decDigits v))
  generalize Lib.bytesWorld w 5 (toB (Lib.decDigits v)) = W1 at *
  generalize toB (Lib.decDigits v) = s at *
  clear d0 d1 d2 hs
  go_enter Tryz.func16, Tryz.ntmps16
  go_wp2_with fail
  refine h1.mono ?_
  rintro e w2 ⟨rfl, rfl⟩
  unfold Lib.uintTupleM
  go_wp2_with fail
  refine bodyPost_ret (v := .tuple #[.int .u64 v, .nilIface]) (by simp [results, Tryz.results16, go_sem]) rfl ⟨rfl, hb⟩
theorem hexB_digit : ∀ d : Fin 16, d.val < 10 → (hexB d.val).toNat = 48 + d.val := by decide +kernel
theorem hexB_letter : ∀ d : Fin 16, 10 ≤ d.val → (hexB d.val).toNat = 87 + d.val := by decide +kernel
theorem low_letter : ∀ d : Fin 16, 10 ≤ d.val → bits .or .u8 ((87 + d.val : Nat) : Int) 32 = ((87 + d.val : Nat) : Int) := by decide +kernel

set_option maxRecDepth 100000 in
set_option maxHeartbeats 2000000 in
theorem parseIn16_any (d : Nat) (hd : d < 16) (w : World) :
    Calls Tryz.prog 27 #[.string (toB [hexB d]), .int .i64 16, .int .i64 4] w fun e w' => e = .returned (.tuple #[.int .u64 d, .nilIface]) ∧ Below w.heap.size w w' := by
  have t9 := Tryz.underlying9; have t37 := Tryz.underlying91; have t5 := Tryz.underlying5
  have hcv := Lib.run_convert_string_bytes (P := Tryz.prog) w 9 91 5 (toB [hexB d]) (u := .string) t9 t37 t5
  have hB := Lib.bytesWorld_cell w 5 (toB [hexB d]) 0 (by simp [toB, ByteArray.size])
  have hb := Lib.bytesWorld_below w 5 (toB [hexB d])
  have hs : (toB [hexB d]).size = 1 := by simp [toB, ByteArray.size]
  have hemp : (toB [hexB d]).toList.isEmpty = false := by
    rw [← decide_eq_emptyBytes]
    exact decide_eq_false (fun h => by rw [h] at hs; cases hs)
  rw [toB_data] at hB
  rw [hs] at hcv
  generalize Lib.bytesWorld w 5 (toB [hexB d]) = W1 at *
  generalize grownCap w 1 0 5 = cap at *
  replace hB : W1.cell? ⟨w.heap.size, 0, none⟩ = some (.int .u8 (hexB d).toNat) := hB
  have hlow0 : 10 ≤ d → bits .or .u8 ((87 + d : Nat) : Int) 32 = ((87 + d : Nat) : Int) := low_letter ⟨d, hd⟩
  obtain ⟨c, hc⟩ : ∃ c, c = (hexB d).toNat := ⟨_, rfl⟩
  rw [← hc] at hB
  have hdg : d < 10 → c = 48 + d := fun h => hc.trans (hexB_digit ⟨d, hd⟩ h)
  have hlt : 10 ≤ d → c = 87 + d := fun h => hc.trans (hexB_letter ⟨d, hd⟩ h)
  generalize toB [hexB d] = s at *
  clear t9 t37 t5 hc
  go_enter Tryz.func27, Tryz.ntmps27
  go_wp2_with fail
  go_loop [12, 13, 101] (fun vu vn vi => vu = .bool false ∧ ((vn = .int .u64 0 ∧ vi = .int .i64 0) ∨ (vn = .int .u64 d ∧ vi = .int .i64 1))) (fun _ _ vi => 1 - (intOf vi).toNat)
  case atStart => exact ⟨rfl, .inl ⟨rfl, rfl⟩⟩
  case round =>
    obtain ⟨rfl, ⟨rfl, rfl⟩ | ⟨rfl, rfl⟩⟩ := hrel
    · by_cases h10 : d < 10
      · have hcd := hdg h10
        subst hcd
        clear hdg hlt hlow0
        go_wp2_with fail
        exact ⟨⟨rfl, .inr ⟨by congr 1; omega, rfl⟩⟩, by simp [intOf]⟩
      · have hcd := hlt (by omega)
        subst hcd
        have h87 : bits .or .u8 (87 + (d : Int)) 32 = 87 + (d : Int) := by simpa using hlow0 (by omega)
        have hlo : ∀ W, Calls Tryz.prog 51 #[.int .u8 (87 + (d : Int))] W fun e w' => e = .returned (.int .u8 (87 + (d : Int))) ∧ w' = W := fun W => (Tryz.internal_strconv_lower _ _).mono (fun e w' h => by rw [h87] at h; exact h)
        clear hdg hlt hlow0
        go_wp2_with fail
        refine (hlo _).mono ?_
        rintro e w' ⟨rfl, rfl⟩
        go_wp2_with fail
        iterate 2 (refine (hlo _).mono ?_; rintro e w' ⟨rfl, rfl⟩; go_wp2_with fail)
        exact ⟨⟨rfl, .inr ⟨by congr 1; omega, rfl⟩⟩, by simp [intOf]⟩
    · clear hdg hlt hlow0 hB
      go_wp2_with fail
      refine bodyPost_ret (v := .tuple #[.int .u64 d, .nilIface]) (by simp [results, Tryz.results27, go_sem]) rfl ⟨rfl, hb⟩

set_option maxRecDepth 100000 in
set_option maxHeartbeats 2000000 in
theorem parse16_any (d : Nat) (hd : d < 16) (w : World) :
    Calls Tryz.prog 16 #[.string (toB [hexB d]), .int .i64 16, .int .i64 4] w fun e w' => e = .returned (.tuple #[.int .u64 d, .nilIface]) ∧ Below w.heap.size w w' := by
  have h1 := parseIn16_any d hd w
  generalize toB [hexB d] = s at *
  go_enter Tryz.func16, Tryz.ntmps16
  go_wp2_with fail
  refine h1.mono ?_
  rintro e w2 ⟨rfl, hb⟩
  go_wp2_with fail
  refine bodyPost_ret (v := .tuple #[.int .u64 d, .nilIface]) (by simp [results, Tryz.results16, go_sem]) rfl ⟨rfl, hb⟩
end Go.Proofs.YtompamkhjikjlaaGreatDoor
