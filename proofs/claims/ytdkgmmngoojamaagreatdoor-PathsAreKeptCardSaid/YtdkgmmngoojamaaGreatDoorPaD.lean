/- route.CheckSamples at right samples. -/
import Derived.Test.YtdkgmmngoojamaaGreatDoorPaC
namespace Go.Proofs.YtdkgmmngoojamaaGreatDoor
open Go.RowKit Go.Hw Go.Shelf

theorem smp_parts {xs : List Smp} (h : smpFault xs = 0) (hl : xs.length ≤ 2000) {i : Nat} (hi : i < xs.length) : smpCode xs i = 0 := by
  by_cases hz : smpCode xs i = 0
  · exact hz
  · exfalso
    have : ∀ n, n ≤ xs.length → ∀ j, j < n → smpCode xs j = 0 := by
      intro n
      induction n with
      | zero => intro _ j hj; omega
      | succ n ih =>
        intro hn j hj
        by_cases e : j = n
        · subst e
          by_cases hc : smpCode xs j = 0
          · exact hc
          · exact absurd (smpFault_at hl (by omega) (ih (by omega)) hc ▸ h) hc
        · exact ih (by omega) j (by omega)
    exact hz (this xs.length (Nat.le_refl _) i hi)
theorem smp_of {xs : List Smp} {i : Nat} (h : smpCode xs i = 0) : isMom (xs.getD i noSmp).at_ = true ∧ isKey (xs.getD i noSmp).path = true ∧ (-1 ≤ (xs.getD i noSmp).ms ∧ (xs.getD i noSmp).ms ≤ 1000000) ∧
    (0 < i → ¬ 0 ≤ orOf [cmpI (xs.getD (i - 1) noSmp).at_ (xs.getD i noSmp).at_, Lib.compareBytes (xs.getD (i - 1) noSmp).path.data.toList (xs.getD i noSmp).path.data.toList]) := by
  unfold smpCode at h
  split at h
  · cases h
  split at h
  · cases h
  split at h
  · cases h
  split at h
  · cases h
  · rename_i h1 h2 h3 h4
    exact ⟨by simpa using h1, by simpa using h2, by simpa using h3, fun hi hn => h4 ⟨hi, hn⟩⟩

set_option maxRecDepth 100000 in
set_option maxHeartbeats 1000000 in
theorem checkSamples_any (A : Option Addr) (cap : Nat) (xs : List Smp) (w : World) (h : SmsAt w w.heap.size A xs) (hl : xs.length ≤ 2000) (hss : ∀ i, (xs.getD i noSmp).path.size ≤ maxLen) (hf : smpFault xs = 0) :
    Calls Tryz.prog 75 #[.slice A xs.length cap] w fun e w' => e = .returned (.int .i64 0) ∧ Below w.heap.size w w' := by
  have H := Lib.hid h
  have HS := Lib.hid hss
  have HF := Lib.hid hf
  clear h hss hf
  go_enter Tryz.func75, Tryz.ntmps75
  go_wp2_with fail
  go_loopw [10] (fun i wr => ∃ k : Nat, k ≤ xs.length ∧ i = .int .i64 k ∧ Below w.heap.size w wr) (fun i _ => xs.length - (intOf i).toNat)
  case atStart => exact ⟨0, Nat.zero_le _, rfl, Below.refl _ _⟩
  case round =>
    obtain ⟨k, hk, rfl, hb⟩ := hrel
    by_cases hlt : k < xs.length
    · obtain ⟨g, off, rfl, hg, c0, c1, c2⟩ := (H.out.below hb) k hlt
      obtain ⟨kt, ka, km, ho⟩ := smp_of (smp_parts HF.out hl hlt)
      have HO := Lib.hid ho
      have s1 := HS.out k
      clear ho
      generalize xs.getD k noSmp = x at *
      obtain ⟨xa, xp, xm⟩ := x
      simp only at c0 c1 c2 s1 kt ka km
      have hin : (decide (xm < (-1 : Int)) || decide (1000000 < xm)) = false := by simp; omega
      clear km
      have hb1 : Below w.heap.size w (wr.alloc (.cells #[.int .i64 xa, .string xp, .int .i64 xm] 93)) := hb.alloc hb.size _
      by_cases k0 : k = 0
      · have hd : decide (0 < k) = false := by simp; omega
        clear k0 HO
        go_wp2_with fail
        refine (isMom_any xa _).mono ?_
        rintro e w1 ⟨rfl, rfl⟩
        rw [kt]
        go_wp2_with fail
        refine (isKey_any xp _ s1).mono ?_
        rintro e w1 ⟨rfl, rfl⟩
        rw [ka]
        go_wp2_with fail
        refine (outside_any _ _ _ _).mono ?_
        rintro e w3 ⟨rfl, rfl⟩
        rw [hin]
        go_wp2_with fail
        go_quiet (fail)
        go_wp2_with fail
        go_roundw
        case rel => exact ⟨k + 1, by omega, by go_num, ⟨hb1.os, hb1.tape, hb1.output, hb1.size, hb1.block⟩⟩
        case measure => simp [intOf]; omega
      · obtain ⟨g', off', e', hg', p0, p1, p2⟩ := (H.out.below hb1) (k - 1) (by omega)
        injection e' with e'
        injection e' with e1 e2
        subst e1 e2
        have hkk : (k : Int) - 1 = ((k - 1 : Nat) : Int) := by omega
        have HK := Lib.hid hkk
        have HNO := HO.out (by omega)
        have k0' : 0 < k := by omega
        have hk1 : 0 ≤ (k : Int) - 1 := by omega
        have hk2 : (k : Int) - 1 < (xs.length : Int) := by omega
        clear hkk k0 p2 HO
        generalize xs.getD (k - 1) noSmp = p at *
        obtain ⟨pa, pp, pm⟩ := p
        simp only at p0 p1 HNO
        have HNO' := Lib.hid HNO
        clear HNO
        go_wp2_with fail
        refine (isMom_any xa _).mono ?_
        rintro e w1 ⟨rfl, rfl⟩
        rw [kt]
        go_wp2_with fail
        refine (isKey_any xp _ s1).mono ?_
        rintro e w1 ⟨rfl, rfl⟩
        rw [ka]
        go_wp2_with fail
        refine (outside_any _ _ _ _).mono ?_
        rintro e w3 ⟨rfl, rfl⟩
        rw [hin]
        have hd : decide (0 < k) = true := by simp; omega
        have x0 : (wr.alloc (.cells #[.int .i64 xa, .string xp, .int .i64 xm] 93)).cell? ⟨wr.heap.size, 0, none⟩ = some (.int .i64 xa) := by simp only [World.cell?, heap_alloc_new]; rfl
        have x1 : (wr.alloc (.cells #[.int .i64 xa, .string xp, .int .i64 xm] 93)).cell? ⟨wr.heap.size, 1, none⟩ = some (.string xp) := by simp only [World.cell?, heap_alloc_new]; rfl
        have hlw : wr.heap.size < (wr.alloc (.cells #[.int .i64 xa, .string xp, .int .i64 xm] 93)).heap.size := by simp
        go_wp2_with fail
        generalize hW : World.alloc _ _ = W at *
        clear hW
        have s1' : (1 : Int) ≤ (k : Int) := by omega
        have s0 : IntKind.i64.wrap ((k : Int) - 1) = (k : Int) - 1 := IntWalk.i64_in _ (by omega)
        have s2' : ((k : Int) - 1).toNat = k - 1 := by omega
        go_region_held3 (fun w' => w'.cell? ⟨g, off + (k - 1) * 3, none⟩ = some (.int .i64 pa) ∧ w'.cell? ⟨g, off + (k - 1) * 3 + 1, none⟩ = some (.string pp) ∧
            w'.cell? ⟨wr.heap.size, 0, none⟩ = some (.int .i64 xa) ∧ w'.cell? ⟨wr.heap.size, 1, none⟩ = some (.string xp))
          (first | go_keep | exact ⟨p0, p1, x0, x1⟩)
          ((first | (go_at_call 49; refine (cmpI_any _ _ _).mono ?_; rintro e w' ⟨rfl, rfl⟩) | (go_at_call 47; refine (cmp_any _ _ _).mono ?_; rintro e w' ⟨rfl, rfl⟩) | (go_at_call 45; refine (or_any W.heap.size [cmpI pa xa, Lib.compareBytes pp.data.toList xp.data.toList] _ (by exact heap_alloc_new W _) 2 2 rfl (by simp)).mono ?_; rintro e w' ⟨rfl, rfl⟩)))
        clear s1' s0 s2' hd k0' hk1 hk2
        have hw : Below w.heap.size w (W.alloc (.cells #[.int .i64 (cmpI pa xa), .int .i64 (Lib.compareBytes pp.data.toList xp.data.toList)] 3)).drew := (hb1.alloc hb1.size _).drew
        have ho := HNO'.out
        generalize orOf [cmpI pa xa, Lib.compareBytes pp.data.toList xp.data.toList] = o at *
        go_wp2_with fail
        go_roundw
        case rel => exact ⟨k + 1, by omega, by go_num, hw⟩
        case measure => simp [intOf]; omega
    · have : k = xs.length := by omega
      subst this
      go_wp2_with fail
      go_ret
      exact ⟨rfl, hb⟩
end Go.Proofs.YtdkgmmngoojamaaGreatDoor
