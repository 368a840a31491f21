/- What is wrong with a log of health: laneref1.HealthFault. -/
import Derived.Test.YtkbbmlkgaooaiaaGreatDoorCmpI
import Derived.Test.YtkbbmlkgaooaiaaGreatDoorDrC
import Derived.Test.YtkbbmlkgaooaiaaGreatDoorFlt
namespace Go.Proofs.YtkbbmlkgaooaiaaGreatDoor
open Go.RowKit Go.Hw Go.Shelf

/-- What is wrong with entry i. -/
def hlCode (xs : List Hl) (i : Nat) : Int :=
  if isMom (xs.getD i noHl).at_ = false then 1
  else if isKey (xs.getD i noHl).node = false then 5
  else if 0 < i ∧ 0 ≤ orOf [cmpI (xs.getD (i - 1) noHl).at_ (xs.getD i noHl).at_, Lib.compareBytes (xs.getD (i - 1) noHl).node.data.toList (xs.getD i noHl).node.data.toList] then 7
  else 0
def hlFault (xs : List Hl) : Int := if 2000 < xs.length then 2 else (((List.range xs.length).map (hlCode xs)).find? (fun c => decide (c ≠ 0))).getD 0
theorem hlFault_at {xs : List Hl} {k : Nat} (hl : xs.length ≤ 2000) (hk : k < xs.length) (h : ∀ j, j < k → hlCode xs j = 0) (hf : hlCode xs k ≠ 0) : hlFault xs = hlCode xs k := by
  unfold hlFault
  rw [if_neg (by omega)]
  exact find_range hk h hf
theorem hlFault_none {xs : List Hl} (hl : xs.length ≤ 2000) (h : ∀ j, j < xs.length → hlCode xs j = 0) : hlFault xs = 0 := by
  unfold hlFault
  rw [if_neg (by omega)]
  exact find_range_none h

set_option maxRecDepth 100000 in
set_option maxHeartbeats 1000000 in
theorem healthFault_any (A : Option Addr) (cap : Nat) (xs : List Hl) (w : World) (h : HlsAt w w.heap.size A xs) (hl : xs.length ≤ 2000) (hss : ∀ i, (xs.getD i noHl).node.size ≤ maxLen) :
    Calls Tryz.prog 10 #[.slice A xs.length cap] w fun e w' => e = .returned (.int .i64 (hlFault xs)) ∧ Below w.heap.size w w' := by
  have H := Lib.hid h
  have HS := Lib.hid hss
  clear h hss
  go_enter Tryz.func10, Tryz.ntmps10
  go_wp2_with fail
  go_loopw [10] (fun i wr => ∃ k : Nat, k ≤ xs.length ∧ i = .int .i64 k ∧ Hid (∀ j, j < k → hlCode xs j = 0) ∧ Below w.heap.size w wr) (fun i _ => xs.length - (intOf i).toNat)
  case atStart => exact ⟨0, Nat.zero_le _, rfl, Lib.hid (fun j h => absurd h (by omega)), Below.refl _ _⟩
  case round =>
    obtain ⟨k, hk, rfl, hrel, hb⟩ := hrel
    by_cases hlt : k < xs.length
    · obtain ⟨g, off, rfl, hg, c0, c1, c2⟩ := (H.out.below hb) k hlt
      have hcode : hlCode xs k = hlCode xs k := rfl
      conv at hcode => rhs; unfold hlCode
      have HC := Lib.hid hcode
      have HE : Hid (hlCode xs k ≠ 0 → hlFault xs = hlCode xs k) := Lib.hid (hlFault_at hl hlt hrel.out)
      have s1 := HS.out k
      clear hcode
      generalize xs.getD k noHl = x at *
      obtain ⟨xa, xp, xm⟩ := x
      simp only at c0 c1 c2 s1
      cases kt : isMom xa
      · have HF : Hid (hlFault xs = 1) := Lib.hid (by have h5 : hlCode xs k = 1 := (by rw [HC.out, if_pos kt]); rw [HE.out (by rw [h5]; decide), h5])
        go_wp2_with fail
        refine (moment_any xa _).mono ?_
        rintro e w1 ⟨rfl, rfl⟩
        rw [kt]
        go_wp2_with fail
        go_ret
        exact ⟨ret_eq HF.out.symm, hb.alloc hb.size _⟩
      · cases ka : isKey xp
        · have HF : Hid (hlFault xs = 5) := Lib.hid (by have h5 : hlCode xs k = 5 := (by rw [HC.out, if_neg (by rw [kt]; decide), if_pos ka]); rw [HE.out (by rw [h5]; decide), h5])
          go_wp2_with fail
          refine (moment_any xa _).mono ?_
          rintro e w1 ⟨rfl, rfl⟩
          rw [kt]
          go_wp2_with fail
          refine (key_any xp _ s1).mono ?_
          rintro e w1 ⟨rfl, hb1⟩
          rw [ka]
          go_wp2_with fail
          go_ret
          exact ⟨ret_eq HF.out.symm, below_box hb hb.size hb1⟩
        · go_wp2_with fail
          refine (moment_any xa _).mono ?_
          rintro e w1 ⟨rfl, rfl⟩
          rw [kt]
          go_wp2_with fail
          refine (key_any xp _ s1).mono ?_
          rintro e w2 ⟨rfl, hb2⟩
          rw [ka]
          have x0 := box_cells (cs := [.int .i64 xa, .string xp, .bool xm]) hb2 0 _ rfl
          have x1 := box_cells (cs := [.int .i64 xa, .string xp, .bool xm]) hb2 1 _ rfl
          have x2 := box_cells (cs := [.int .i64 xa, .string xp, .bool xm]) hb2 2 _ rfl
          have hbw := below_box hb hb.size hb2
          clear hb2 hb
          by_cases k0 : k = 0
          · have HN : Hid (hlCode xs k = 0) := Lib.hid (by rw [HC.out, if_neg (by rw [kt]; decide), if_neg (by rw [ka]; decide), if_neg (by omega)])
            have hd : decide (0 < k) = false := by simp; omega
            have HR : Hid (∀ j, j < k + 1 → hlCode xs j = 0) := Lib.hid (fun j hj => by
              by_cases e : j = k
              · rw [e]; exact HN.out
              · exact hrel.out j (by omega))
            clear k0 hrel
            go_wp2_with fail
            go_quiet (fail)
            go_wp2_with fail
            go_roundw
            case rel => exact ⟨k + 1, by omega, by go_num, HR, ⟨hbw.os, hbw.tape, hbw.output, hbw.size, hbw.block⟩⟩
            case measure => simp [intOf]; omega
          · obtain ⟨g', off', e', hg', p0, p1, p2⟩ := (H.out.below hbw) (k - 1) (by omega)
            injection e' with e'
            injection e' with e1 e2
            subst e1 e2
            have hkk : (k : Int) - 1 = ((k - 1 : Nat) : Int) := by omega
            have HK := Lib.hid hkk
            have HK0 := Lib.hid k0
            have k0' : 0 < k := by omega
            have hk1 : 0 ≤ (k : Int) - 1 := by omega
            have hk2 : (k : Int) - 1 < (xs.length : Int) := by omega
            clear hkk k0 p2
            generalize hp : xs.getD (k - 1) noHl = p at *
            obtain ⟨pa, pp, pm⟩ := p
            simp only at p0 p1
            have HP := Lib.hid hp
            clear hp
            go_wp2_with fail
            have hd : decide (0 < k) = true := by simp; omega
            go_wp2_with fail
            have s1' : (1 : Int) ≤ (k : Int) := by omega
            have s0 : IntKind.i64.wrap ((k : Int) - 1) = (k : Int) - 1 := IntWalk.i64_in _ (by omega)
            have s2' : ((k : Int) - 1).toNat = k - 1 := by omega
            go_region_held3 (fun w' => w'.cell? ⟨g, off + (k - 1) * 3, none⟩ = some (.int .i64 pa) ∧ w'.cell? ⟨g, off + (k - 1) * 3 + 1, none⟩ = some (.string pp) ∧
                w'.cell? ⟨wr.heap.size, 0, none⟩ = some (.int .i64 xa) ∧ w'.cell? ⟨wr.heap.size, 1, none⟩ = some (.string xp))
              (first | go_keep | exact ⟨p0, p1, x0, x1⟩)
              ((first | (go_at_call 33; refine (cmpI_any _ _ _).mono ?_; rintro e w' ⟨rfl, rfl⟩) | (go_at_call 31; refine (cmp_any _ _ _).mono ?_; rintro e w' ⟨rfl, rfl⟩) | (go_at_call 29; refine (or_any w2.heap.size [cmpI pa xa, Lib.compareBytes pp.data.toList xp.data.toList] _ (by exact heap_alloc_new w2 _) 2 2 rfl (by simp)).mono ?_; rintro e w' ⟨rfl, rfl⟩)))
            clear s1' s0 s2' hd k0' hk1 hk2
            have hw : Below w.heap.size w (w2.alloc (.cells #[.int .i64 (cmpI pa xa), .int .i64 (Lib.compareBytes pp.data.toList xp.data.toList)] 3)).drew := (hbw.alloc hbw.size _).drew
            by_cases ho : 0 ≤ orOf [cmpI pa xa, Lib.compareBytes pp.data.toList xp.data.toList]
            · have h7 : hlCode xs k = 7 := by rw [HC.out, if_neg (by rw [kt]; decide), if_neg (by rw [ka]; decide), if_pos ⟨by have := HK0.out; omega, ho⟩]
              have HF : Hid (hlFault xs = 7) := Lib.hid (by rw [HE.out (by rw [h7]; decide), h7])
              clear h7 hw
              have hw := hbw
              generalize orOf [cmpI pa xa, Lib.compareBytes pp.data.toList xp.data.toList] = o at *
              go_wp2_with fail
              go_ret
              exact ⟨ret_eq HF.out.symm, (hbw.alloc hbw.size _).drew⟩
            · have h7 : hlCode xs k = 0 := by rw [HC.out, if_neg (by rw [kt]; decide), if_neg (by rw [ka]; decide), if_neg (fun h => ho h.2)]
              have HR : Hid (∀ j, j < k + 1 → hlCode xs j = 0) := Lib.hid (fun j hj => by
                by_cases e : j = k
                · rw [e]; exact h7
                · exact hrel.out j (by omega))
              clear h7 hrel
              generalize orOf [cmpI pa xa, Lib.compareBytes pp.data.toList xp.data.toList] = o at *
              go_wp2_with fail
              go_roundw
              case rel => exact ⟨k + 1, by omega, by go_num, HR, hw⟩
              case measure => simp [intOf]; omega
    · have : k = xs.length := by omega
      subst this
      have HF : Hid (hlFault xs = 0) := Lib.hid (hlFault_none hl hrel.out)
      clear hrel
      go_wp2_with fail
      go_ret
      exact ⟨ret_eq HF.out.symm, hb⟩
theorem hl_parts {xs : List Hl} (h : hlFault xs = 0) (hl : xs.length ≤ 2000) {i : Nat} (hi : i < xs.length) : hlCode xs i = 0 := by
  by_cases hz : hlCode xs i = 0
  · exact hz
  · exfalso
    have : ∀ n, n ≤ xs.length → ∀ j, j < n → hlCode xs j = 0 := by
      intro n
      induction n with
      | zero => intro _ j hj; omega
      | succ n ih =>
        intro hn j hj
        by_cases e : j = n
        · subst e
          by_cases hc : hlCode xs j = 0
          · exact hc
          · exact absurd (hlFault_at hl (by omega) (ih (by omega)) hc ▸ h) hc
        · exact ih (by omega) j (by omega)
    exact hz (this xs.length (Nat.le_refl _) i hi)
theorem hl_of {xs : List Hl} {i : Nat} (h : hlCode xs i = 0) : isMom (xs.getD i noHl).at_ = true ∧ isKey (xs.getD i noHl).node = true ∧ 
    (0 < i → ¬ 0 ≤ orOf [cmpI (xs.getD (i - 1) noHl).at_ (xs.getD i noHl).at_, Lib.compareBytes (xs.getD (i - 1) noHl).node.data.toList (xs.getD i noHl).node.data.toList]) := by
  unfold hlCode at h
  split at h
  · cases h
  split at h
  · cases h
  split at h
  · cases h
  · rename_i h1 h2 h4
    exact ⟨by simpa using h1, by simpa using h2, fun hi hn => h4 ⟨hi, hn⟩⟩

set_option maxRecDepth 100000 in
set_option maxHeartbeats 1000000 in
theorem checkHealth_any (A : Option Addr) (cap : Nat) (xs : List Hl) (w : World) (h : HlsAt w w.heap.size A xs) (hl : xs.length ≤ 2000) (hss : ∀ i, (xs.getD i noHl).node.size ≤ maxLen) (hf : hlFault xs = 0) :
    Calls Tryz.prog 47 #[.slice A xs.length cap] w fun e w' => e = .returned (.int .i64 0) ∧ Below w.heap.size w w' := by
  have H := Lib.hid h
  have HS := Lib.hid hss
  have HF := Lib.hid hf
  clear h hss hf
  go_enter Tryz.func47, Tryz.ntmps47
  go_wp2_with fail
  go_loopw [10] (fun i wr => ∃ k : Nat, k ≤ xs.length ∧ i = .int .i64 k ∧ Below w.heap.size w wr) (fun i _ => xs.length - (intOf i).toNat)
  case atStart => exact ⟨0, Nat.zero_le _, rfl, Below.refl _ _⟩
  case round =>
    obtain ⟨k, hk, rfl, hb⟩ := hrel
    by_cases hlt : k < xs.length
    · obtain ⟨g, off, rfl, hg, c0, c1, c2⟩ := (H.out.below hb) k hlt
      obtain ⟨kt, ka, ho⟩ := hl_of (hl_parts HF.out hl hlt)
      have HO := Lib.hid ho
      have s1 := HS.out k
      clear ho
      generalize xs.getD k noHl = x at *
      obtain ⟨xa, xp, xm⟩ := x
      simp only at c0 c1 c2 s1 kt ka
      have hb1 : Below w.heap.size w (wr.alloc (.cells #[.int .i64 xa, .string xp, .bool xm] 58)) := hb.alloc hb.size _
      by_cases k0 : k = 0
      · have hd : decide (0 < k) = false := by simp; omega
        clear k0 HO
        go_wp2_with fail
        refine (isMom_any xa _).mono ?_
        rintro e w1 ⟨rfl, rfl⟩
        rw [kt]
        go_wp2_with fail
        refine (isKey_any xp _ s1).mono ?_
        rintro e w1 ⟨rfl, rfl⟩
        rw [ka]
        go_wp2_with fail

        go_wp2_with fail
        go_quiet (fail)
        go_wp2_with fail
        go_roundw
        case rel => exact ⟨k + 1, by omega, by go_num, ⟨hb1.os, hb1.tape, hb1.output, hb1.size, hb1.block⟩⟩
        case measure => simp [intOf]; omega
      · obtain ⟨g', off', e', hg', p0, p1, p2⟩ := (H.out.below hb1) (k - 1) (by omega)
        injection e' with e'
        injection e' with e1 e2
        subst e1 e2
        have hkk : (k : Int) - 1 = ((k - 1 : Nat) : Int) := by omega
        have HK := Lib.hid hkk
        have HNO := HO.out (by omega)
        have k0' : 0 < k := by omega
        have hk1 : 0 ≤ (k : Int) - 1 := by omega
        have hk2 : (k : Int) - 1 < (xs.length : Int) := by omega
        clear hkk k0 p2 HO
        generalize xs.getD (k - 1) noHl = p at *
        obtain ⟨pa, pp, pm⟩ := p
        simp only at p0 p1 HNO
        have HNO' := Lib.hid HNO
        clear HNO
        go_wp2_with fail
        refine (isMom_any xa _).mono ?_
        rintro e w1 ⟨rfl, rfl⟩
        rw [kt]
        go_wp2_with fail
        refine (isKey_any xp _ s1).mono ?_
        rintro e w1 ⟨rfl, rfl⟩
        rw [ka]
        go_wp2_with fail

        have hd : decide (0 < k) = true := by simp; omega
        have x0 : (wr.alloc (.cells #[.int .i64 xa, .string xp, .bool xm] 58)).cell? ⟨wr.heap.size, 0, none⟩ = some (.int .i64 xa) := by simp only [World.cell?, heap_alloc_new]; rfl
        have x1 : (wr.alloc (.cells #[.int .i64 xa, .string xp, .bool xm] 58)).cell? ⟨wr.heap.size, 1, none⟩ = some (.string xp) := by simp only [World.cell?, heap_alloc_new]; rfl
        have hlw : wr.heap.size < (wr.alloc (.cells #[.int .i64 xa, .string xp, .bool xm] 58)).heap.size := by simp
        go_wp2_with fail
        generalize hW : World.alloc _ _ = W at *
        clear hW
        have s1' : (1 : Int) ≤ (k : Int) := by omega
        have s0 : IntKind.i64.wrap ((k : Int) - 1) = (k : Int) - 1 := IntWalk.i64_in _ (by omega)
        have s2' : ((k : Int) - 1).toNat = k - 1 := by omega
        go_region_held3 (fun w' => w'.cell? ⟨g, off + (k - 1) * 3, none⟩ = some (.int .i64 pa) ∧ w'.cell? ⟨g, off + (k - 1) * 3 + 1, none⟩ = some (.string pp) ∧
            w'.cell? ⟨wr.heap.size, 0, none⟩ = some (.int .i64 xa) ∧ w'.cell? ⟨wr.heap.size, 1, none⟩ = some (.string xp))
          (first | go_keep | exact ⟨p0, p1, x0, x1⟩)
          ((first | (go_at_call 33; refine (cmpI_any _ _ _).mono ?_; rintro e w' ⟨rfl, rfl⟩) | (go_at_call 31; refine (cmp_any _ _ _).mono ?_; rintro e w' ⟨rfl, rfl⟩) | (go_at_call 29; refine (or_any W.heap.size [cmpI pa xa, Lib.compareBytes pp.data.toList xp.data.toList] _ (by exact heap_alloc_new W _) 2 2 rfl (by simp)).mono ?_; rintro e w' ⟨rfl, rfl⟩)))
        clear s1' s0 s2' hd k0' hk1 hk2
        have hw : Below w.heap.size w (W.alloc (.cells #[.int .i64 (cmpI pa xa), .int .i64 (Lib.compareBytes pp.data.toList xp.data.toList)] 3)).drew := (hb1.alloc hb1.size _).drew
        have ho := HNO'.out
        generalize orOf [cmpI pa xa, Lib.compareBytes pp.data.toList xp.data.toList] = o at *
        go_wp2_with fail
        go_roundw
        case rel => exact ⟨k + 1, by omega, by go_num, hw⟩
        case measure => simp [intOf]; omega
    · have : k = xs.length := by omega
      subst this
      go_wp2_with fail
      go_ret
      exact ⟨rfl, hb⟩
end Go.Proofs.YtkbbmlkgaooaiaaGreatDoor
