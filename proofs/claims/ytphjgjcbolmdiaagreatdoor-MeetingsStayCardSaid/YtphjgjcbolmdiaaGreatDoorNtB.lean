/- Translators: the checks of ports, spots, translators and moments; what is seen of a spot. -/
import Derived.Test.YtphjgjcbolmdiaaGreatDoorNtA
import Derived.Test.YtphjgjcbolmdiaaGreatDoorFlt
namespace Go.Proofs.YtphjgjcbolmdiaaGreatDoor
open Go.RowKit Go.Hw

def portCode (p : Int) : Int := if 1 ≤ p ∧ p ≤ 65535 then 0 else 1
def spotCode (s : Spot) : Int := if addrCode s.six s.hi s.lo ≠ 0 then addrCode s.six s.hi s.lo else portCode s.port
theorem addrCode_cases (six : Bool) (hi lo : Int) : addrCode six hi lo = 0 ∨ addrCode six hi lo = 3 := by unfold addrCode; split <;> simp
theorem out_false {n lo hi : Int} (h1 : lo ≤ n) (h2 : n ≤ hi) : (decide (n < lo) || decide (hi < n)) = false := by simp; omega
theorem out_true {n lo hi : Int} (h : ¬ (lo ≤ n ∧ n ≤ hi)) : (decide (n < lo) || decide (hi < n)) = true := by simp; omega
theorem in_true {n lo hi : Int} (h1 : lo ≤ n) (h2 : n ≤ hi) : (decide (lo ≤ n) && decide (n ≤ hi)) = true := by simp; omega
theorem in_false {n lo hi : Int} (h : ¬ (lo ≤ n ∧ n ≤ hi)) : (decide (lo ≤ n) && decide (n ≤ hi)) = false := by simp; omega

theorem portFault_any (p : Int) (w : World) :
    Calls Tryz.prog 38 #[.int .i64 p] w fun e w' => e = .returned (.int .i64 (portCode p)) ∧ w = w' := by
  by_cases h : 1 ≤ p ∧ p ≤ 65535
  · have HF : Hid (portCode p = 0) := Lib.hid (if_pos h)
    have ho := out_false h.1 h.2
    go_enter Tryz.func38, Tryz.ntmps38
    go_wp2_with fail
    refine (outside_any _ _ _ _).mono ?_
    rintro e w' ⟨rfl, rfl⟩
    rw [ho]
    clear ho
    go_wp2_with fail
    go_ret
    exact ⟨ret_eq HF.out.symm, rfl⟩
  · have HF : Hid (portCode p = 1) := Lib.hid (if_neg h)
    have ho := out_true h
    go_enter Tryz.func38, Tryz.ntmps38
    go_wp2_with fail
    refine (outside_any _ _ _ _).mono ?_
    rintro e w' ⟨rfl, rfl⟩
    rw [ho]
    clear ho
    go_wp2_with fail
    go_ret
    exact ⟨ret_eq HF.out.symm, rfl⟩

/-- The cells of a box are as they were. -/
theorem box4 {w w1 : World} {a b c d : Value} {T : TypeId} (hb : Below (w.alloc (.cells #[a, b, c, d] T)).heap.size (w.alloc (.cells #[a, b, c, d] T)) w1) :
    w1.cell? ⟨w.heap.size, 0, none⟩ = some a ∧ w1.cell? ⟨w.heap.size, 1, none⟩ = some b ∧ w1.cell? ⟨w.heap.size, 2, none⟩ = some c ∧ w1.cell? ⟨w.heap.size, 3, none⟩ = some d := by
  have h := hb.block w.heap.size (by simp)
  rw [heap_alloc_new] at h
  refine ⟨?_, ?_, ?_, ?_⟩ <;> simp [World.cell?, h]

set_option maxRecDepth 100000 in
set_option maxHeartbeats 400000 in
theorem spotFault_any (s : Spot) (w : World) (h0 : 0 ≤ s.hi) :
    Calls Tryz.prog 31 #[.agg #[.bool s.six, .int .u64 s.hi, .int .u64 s.lo, .int .i64 s.port]] w fun e w' => e = .returned (.int .i64 (spotCode s)) ∧ Below w.heap.size w w' := by
  have hfin : spotCode s = spotCode s := rfl
  conv at hfin => rhs; unfold spotCode
  rcases addrCode_cases s.six s.hi s.lo with h | h
  · have HF : Hid (spotCode s = portCode s.port) := Lib.hid (by rw [hfin, h]; simp)
    clear hfin
    go_enter Tryz.func31, Tryz.ntmps31
    go_wp2_with fail
    refine (checkAddr_any s.six s.hi s.lo _ h0).mono ?_
    rintro e w1 ⟨rfl, hb⟩
    rw [h]
    obtain ⟨c0, c1, c2, c3⟩ := box4 hb
    have HB := Lib.hid (below_box (Below.refl _ w) (Nat.le_refl _) hb)
    clear hb h
    go_wp2_with fail
    refine (portFault_any _ _).mono ?_
    rintro e w2 ⟨rfl, rfl⟩
    go_wp2_with fail
    go_ret
    exact ⟨ret_eq HF.out.symm, HB.out⟩
  · have HF : Hid (spotCode s = 3) := Lib.hid (by rw [hfin, h]; simp)
    clear hfin
    go_enter Tryz.func31, Tryz.ntmps31
    go_wp2_with fail
    refine (checkAddr_any s.six s.hi s.lo _ h0).mono ?_
    rintro e w1 ⟨rfl, hb⟩
    rw [h]
    have HB := Lib.hid (below_box (Below.refl _ w) (Nat.le_refl _) hb)
    clear hb h
    go_wp2_with fail
    go_ret
    exact ⟨ret_eq HF.out.symm, HB.out⟩
set_option maxRecDepth 100000 in
set_option maxHeartbeats 400000 in
theorem refSpotFault_any (s : Spot) (w : World) (h0 : 0 ≤ s.hi) :
    Calls Tryz.prog 12 #[.agg #[.bool s.six, .int .u64 s.hi, .int .u64 s.lo, .int .i64 s.port]] w fun e w' => e = .returned (.int .i64 (spotCode s)) ∧ Below w.heap.size w w' := by
  have hfin : spotCode s = spotCode s := rfl
  conv at hfin => rhs; unfold spotCode
  rcases addrCode_cases s.six s.hi s.lo with h | h
  · have hf2 : spotCode s = portCode s.port := by rw [hfin, h]; simp
    clear hfin
    by_cases hp : 1 ≤ s.port ∧ s.port ≤ 65535
    · have HF : Hid (spotCode s = 0) := Lib.hid (hf2.trans (if_pos hp))
      have hi := in_true hp.1 hp.2
      clear hf2 hp
      go_enter Tryz.func12, Tryz.ntmps12
      go_wp2_with fail
      refine (addrFault_any s.six s.hi s.lo _ h0).mono ?_
      rintro e w1 ⟨rfl, hb⟩
      rw [h]
      obtain ⟨c0, c1, c2, c3⟩ := box4 hb
      have HB := Lib.hid (below_box (Below.refl _ w) (Nat.le_refl _) hb)
      have HI := Lib.hid hi
      clear hb h hi
      go_wp2_with fail
      refine (in1_any _ _ _ _).mono ?_
      rintro e w2 ⟨rfl, rfl⟩
      rw [HI.out]
      go_wp2_with fail
      go_ret
      exact ⟨ret_eq HF.out.symm, HB.out⟩
    · have HF : Hid (spotCode s = 1) := Lib.hid (hf2.trans (if_neg hp))
      have hi := in_false hp
      clear hf2 hp
      go_enter Tryz.func12, Tryz.ntmps12
      go_wp2_with fail
      refine (addrFault_any s.six s.hi s.lo _ h0).mono ?_
      rintro e w1 ⟨rfl, hb⟩
      rw [h]
      obtain ⟨c0, c1, c2, c3⟩ := box4 hb
      have HB := Lib.hid (below_box (Below.refl _ w) (Nat.le_refl _) hb)
      have HI := Lib.hid hi
      clear hb h hi
      go_wp2_with fail
      refine (in1_any _ _ _ _).mono ?_
      rintro e w2 ⟨rfl, rfl⟩
      rw [HI.out]
      go_wp2_with fail
      go_ret
      exact ⟨ret_eq HF.out.symm, HB.out⟩
  · have HF : Hid (spotCode s = 3) := Lib.hid (by rw [hfin, h]; simp)
    clear hfin
    go_enter Tryz.func12, Tryz.ntmps12
    go_wp2_with fail
    refine (addrFault_any s.six s.hi s.lo _ h0).mono ?_
    rintro e w1 ⟨rfl, hb⟩
    rw [h]
    have HB := Lib.hid (below_box (Below.refl _ w) (Nat.le_refl _) hb)
    clear hb h
    go_wp2_with fail
    go_ret
    exact ⟨ret_eq HF.out.symm, HB.out⟩

/-- What is looked at of a spot. -/
def seenS (s : Spot) (k : Int) : Spot := if k = 1 then noSpot else if k = 2 then ⟨s.six, s.hi, s.lo, 0⟩ else s
set_option maxRecDepth 100000 in
set_option maxHeartbeats 400000 in
theorem seen_any (s : Spot) (k : Int) (w : World) :
    Calls Tryz.prog 36 #[.agg #[.bool s.six, .int .u64 s.hi, .int .u64 s.lo, .int .i64 s.port], .int .i64 k] w fun e w' => e = .returned (spotV (seenS s k)) ∧ Below w.heap.size w w' := by
  have hfin : seenS s k = seenS s k := rfl
  conv at hfin => rhs; unfold seenS
  by_cases h1 : k = 1
  · subst h1
    have HF : Hid (seenS s 1 = noSpot) := Lib.hid (by rw [hfin]; rfl)
    clear hfin
    go_enter Tryz.func36, Tryz.ntmps36
    go_wp2_with fail
    refine bodyPost_ret (v := spotV noSpot) (by simp [results, Tryz.results36, go_sem, spotV, noSpot]) rfl ⟨by rw [HF.out], ?_⟩
    exact ((Below.refl _ _).alloc (Nat.le_refl _) _).alloc (by simp) _
  · have e1 : (k == 1) = false := by simpa using h1
    by_cases h2 : k = 2
    · subst h2
      have HF : Hid (seenS s 2 = ⟨s.six, s.hi, s.lo, 0⟩) := Lib.hid (by rw [hfin]; rfl)
      clear hfin h1
      go_enter Tryz.func36, Tryz.ntmps36
      go_wp2_with fail
      refine bodyPost_ret (v := spotV ⟨s.six, s.hi, s.lo, 0⟩) (by simp [results, Tryz.results36, go_sem, spotV]) rfl ⟨by rw [HF.out], ?_⟩
      exact ((Below.refl _ _).alloc (Nat.le_refl _) _).alloc (by simp) _
    · have e2 : (k == 2) = false := by simpa using h2
      have HF : Hid (seenS s k = s) := Lib.hid (by rw [hfin, if_neg h1, if_neg h2])
      clear hfin h1 h2
      go_enter Tryz.func36, Tryz.ntmps36
      go_wp2_with fail
      refine bodyPost_ret (v := spotV s) (by simp [results, Tryz.results36, go_sem, spotV]) rfl ⟨by rw [HF.out], ?_⟩
      exact ((Below.refl _ _).alloc (Nat.le_refl _) _).alloc (by simp) _
end Go.Proofs.YtphjgjcbolmdiaaGreatDoor
