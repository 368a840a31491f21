/- What is wrong with samples: the words; laneref1.SamplesFault. -/
import Derived.Test.YtdkgmmngoojamaaGreatDoorCmpI
import Derived.Test.YtdkgmmngoojamaaGreatDoorPaB
import Derived.Test.YtdkgmmngoojamaaGreatDoorFlt
namespace Go.Proofs.YtdkgmmngoojamaaGreatDoor
open Go.RowKit Go.Hw Go.Shelf

/-- A slice of samples lies in memory, below block B. -/
def SmsAt (w : World) (B : Nat) (A : Option Addr) (xs : List Smp) : Prop :=
  ∀ i, i < xs.length → ∃ g off, A = some ⟨g, off, none⟩ ∧ g < B ∧ w.cell? ⟨g, off + i * 3, none⟩ = some (.int .i64 (xs.getD i noSmp).at_) ∧ w.cell? ⟨g, off + i * 3 + 1, none⟩ = some (.string (xs.getD i noSmp).path) ∧
    w.cell? ⟨g, off + i * 3 + 2, none⟩ = some (.int .i64 (xs.getD i noSmp).ms)
theorem SmsAt.keep {w w' : World} {B : Nat} {A : Option Addr} {xs : List Smp} (h : SmsAt w B A xs) (hk : ∀ p : Addr, p.block < B → w'.cell? p = w.cell? p) : SmsAt w' B A xs := fun i hi =>
  let ⟨g, off, h1, h2, h3, h4, h5⟩ := h i hi
  ⟨g, off, h1, h2, (hk _ h2).trans h3, (hk _ h2).trans h4, (hk _ h2).trans h5⟩
theorem SmsAt.below {w w' : World} {B : Nat} {A : Option Addr} {xs : List Smp} (h : SmsAt w B A xs) (hb : Below B w w') : SmsAt w' B A xs := h.keep fun _ hp => hb.cell hp
theorem SmsAt.more {w : World} {B B' : Nat} {A : Option Addr} {xs : List Smp} (h : SmsAt w B A xs) (hb : B ≤ B') : SmsAt w B' A xs := fun i hi =>
  let ⟨g, off, h1, h2, h3⟩ := h i hi
  ⟨g, off, h1, by omega, h3⟩

/-- What is wrong with sample i. -/
def smpCode (xs : List Smp) (i : Nat) : Int :=
  if isMom (xs.getD i noSmp).at_ = false then 1
  else if isKey (xs.getD i noSmp).path = false then 5
  else if ¬ (-1 ≤ (xs.getD i noSmp).ms ∧ (xs.getD i noSmp).ms ≤ 1000000) then 1
  else if 0 < i ∧ 0 ≤ orOf [cmpI (xs.getD (i - 1) noSmp).at_ (xs.getD i noSmp).at_, Lib.compareBytes (xs.getD (i - 1) noSmp).path.data.toList (xs.getD i noSmp).path.data.toList] then 7
  else 0
def smpFault (xs : List Smp) : Int := if 2000 < xs.length then 2 else (((List.range xs.length).map (smpCode xs)).find? (fun c => decide (c ≠ 0))).getD 0
theorem smpFault_at {xs : List Smp} {k : Nat} (hl : xs.length ≤ 2000) (hk : k < xs.length) (h : ∀ j, j < k → smpCode xs j = 0) (hf : smpCode xs k ≠ 0) : smpFault xs = smpCode xs k := by
  unfold smpFault
  rw [if_neg (by omega)]
  exact find_range hk h hf
theorem smpFault_none {xs : List Smp} (hl : xs.length ≤ 2000) (h : ∀ j, j < xs.length → smpCode xs j = 0) : smpFault xs = 0 := by
  unfold smpFault
  rw [if_neg (by omega)]
  exact find_range_none h

set_option maxRecDepth 100000 in
set_option maxHeartbeats 1000000 in
theorem samplesFault_any (A : Option Addr) (cap : Nat) (xs : List Smp) (w : World) (h : SmsAt w w.heap.size A xs) (hl : xs.length ≤ 2000) (hss : ∀ i, (xs.getD i noSmp).path.size ≤ maxLen) :
    Calls Tryz.prog 35 #[.slice A xs.length cap] w fun e w' => e = .returned (.int .i64 (smpFault xs)) ∧ Below w.heap.size w w' := by
  have H := Lib.hid h
  have HS := Lib.hid hss
  clear h hss
  go_enter Tryz.func35, Tryz.ntmps35
  go_wp2_with fail
  go_loopw [10] (fun i wr => ∃ k : Nat, k ≤ xs.length ∧ i = .int .i64 k ∧ Hid (∀ j, j < k → smpCode xs j = 0) ∧ Below w.heap.size w wr) (fun i _ => xs.length - (intOf i).toNat)
  case atStart => exact ⟨0, Nat.zero_le _, rfl, Lib.hid (fun j h => absurd h (by omega)), Below.refl _ _⟩
  case round =>
    obtain ⟨k, hk, rfl, hrel, hb⟩ := hrel
    by_cases hlt : k < xs.length
    · obtain ⟨g, off, rfl, hg, c0, c1, c2⟩ := (H.out.below hb) k hlt
      have hcode : smpCode xs k = smpCode xs k := rfl
      conv at hcode => rhs; unfold smpCode
      have HC := Lib.hid hcode
      have HE : Hid (smpCode xs k ≠ 0 → smpFault xs = smpCode xs k) := Lib.hid (smpFault_at hl hlt hrel.out)
      have s1 := HS.out k
      clear hcode
      generalize xs.getD k noSmp = x at *
      obtain ⟨xa, xp, xm⟩ := x
      simp only at c0 c1 c2 s1
      cases kt : isMom xa
      · have HF : Hid (smpFault xs = 1) := Lib.hid (by have h5 : smpCode xs k = 1 := by rw [HC.out, if_pos kt]
                                                       rw [HE.out (by rw [h5]; decide), h5])
        go_wp2_with fail
        refine (moment_any xa _).mono ?_
        rintro e w1 ⟨rfl, rfl⟩
        rw [kt]
        go_wp2_with fail
        go_ret
        exact ⟨ret_eq HF.out.symm, hb.alloc hb.size _⟩
      · cases ka : isKey xp
        · have HF : Hid (smpFault xs = 5) := Lib.hid (by have h5 : smpCode xs k = 5 := by rw [HC.out, if_neg (by rw [kt]; decide), if_pos ka]
                                                         rw [HE.out (by rw [h5]; decide), h5])
          go_wp2_with fail
          refine (moment_any xa _).mono ?_
          rintro e w1 ⟨rfl, rfl⟩
          rw [kt]
          go_wp2_with fail
          refine (key_any xp _ s1).mono ?_
          rintro e w1 ⟨rfl, hb1⟩
          rw [ka]
          go_wp2_with fail
          go_ret
          exact ⟨ret_eq HF.out.symm, below_box hb hb.size hb1⟩
        · go_wp2_with fail
          refine (moment_any xa _).mono ?_
          rintro e w1 ⟨rfl, rfl⟩
          rw [kt]
          go_wp2_with fail
          refine (key_any xp _ s1).mono ?_
          rintro e w2 ⟨rfl, hb2⟩
          rw [ka]
          have x0 := box_cells (cs := [.int .i64 xa, .string xp, .int .i64 xm]) hb2 0 _ rfl
          have x1 := box_cells (cs := [.int .i64 xa, .string xp, .int .i64 xm]) hb2 1 _ rfl
          have x2 := box_cells (cs := [.int .i64 xa, .string xp, .int .i64 xm]) hb2 2 _ rfl
          have hbw := below_box hb hb.size hb2
          clear hb2 hb
          by_cases km : -1 ≤ xm ∧ xm ≤ 1000000
          · have hin : (decide ((-1 : Int) ≤ xm) && decide (xm ≤ 1000000)) = true := by simp; omega
            by_cases k0 : k = 0
            · have HN : Hid (smpCode xs k = 0) := Lib.hid (by rw [HC.out, if_neg (by rw [kt]; decide), if_neg (by rw [ka]; decide), if_neg (by simp; omega), if_neg (by omega)])
              have hd : decide (0 < k) = false := by simp; omega
              have HR : Hid (∀ j, j < k + 1 → smpCode xs j = 0) := Lib.hid (fun j hj => by
                by_cases e : j = k
                · rw [e]; exact HN.out
                · exact hrel.out j (by omega))
              clear k0 hrel
              go_wp2_with fail
              refine (in1_any _ _ _ _).mono ?_
              rintro e w3 ⟨rfl, rfl⟩
              rw [hin]
              go_wp2_with fail
              go_quiet (fail)
              go_wp2_with fail
              go_roundw
              case rel => exact ⟨k + 1, by omega, by go_num, HR, ⟨hbw.os, hbw.tape, hbw.output, hbw.size, hbw.block⟩⟩
              case measure => simp [intOf]; omega
            · obtain ⟨g', off', e', hg', p0, p1, p2⟩ := (H.out.below hbw) (k - 1) (by omega)
              injection e' with e'
              injection e' with e1 e2
              subst e1 e2
              have hkk : (k : Int) - 1 = ((k - 1 : Nat) : Int) := by omega
              have HK := Lib.hid hkk
              have HK0 := Lib.hid k0
              have k0' : 0 < k := by omega
              have hk1 : 0 ≤ (k : Int) - 1 := by omega
              have hk2 : (k : Int) - 1 < (xs.length : Int) := by omega
              clear hkk k0 p2
              generalize hp : xs.getD (k - 1) noSmp = p at *
              obtain ⟨pa, pp, pm⟩ := p
              simp only at p0 p1
              have HP := Lib.hid hp
              clear hp
              go_wp2_with fail
              refine (in1_any _ _ _ _).mono ?_
              rintro e w3 ⟨rfl, rfl⟩
              rw [hin]
              have hd : decide (0 < k) = true := by simp; omega
              go_wp2_with fail
              have s1' : (1 : Int) ≤ (k : Int) := by omega
              have s0 : IntKind.i64.wrap ((k : Int) - 1) = (k : Int) - 1 := IntWalk.i64_in _ (by omega)
              have s2' : ((k : Int) - 1).toNat = k - 1 := by omega
              go_region_held3 (fun w' => w'.cell? ⟨g, off + (k - 1) * 3, none⟩ = some (.int .i64 pa) ∧ w'.cell? ⟨g, off + (k - 1) * 3 + 1, none⟩ = some (.string pp) ∧
                  w'.cell? ⟨wr.heap.size, 0, none⟩ = some (.int .i64 xa) ∧ w'.cell? ⟨wr.heap.size, 1, none⟩ = some (.string xp))
                (first | go_keep | exact ⟨p0, p1, x0, x1⟩)
                ((first | (go_at_call 49; refine (cmpI_any _ _ _).mono ?_; rintro e w' ⟨rfl, rfl⟩) | (go_at_call 47; refine (cmp_any _ _ _).mono ?_; rintro e w' ⟨rfl, rfl⟩) | (go_at_call 45; refine (or_any w2.heap.size [cmpI pa xa, Lib.compareBytes pp.data.toList xp.data.toList] _ (by exact heap_alloc_new w2 _) 2 2 rfl (by simp)).mono ?_; rintro e w' ⟨rfl, rfl⟩)))
              clear s1' s0 s2' hd k0' hk1 hk2
              have hw : Below w.heap.size w (w2.alloc (.cells #[.int .i64 (cmpI pa xa), .int .i64 (Lib.compareBytes pp.data.toList xp.data.toList)] 3)).drew := (hbw.alloc hbw.size _).drew
              by_cases ho : 0 ≤ orOf [cmpI pa xa, Lib.compareBytes pp.data.toList xp.data.toList]
              · have h7 : smpCode xs k = 7 := by rw [HC.out, if_neg (by rw [kt]; decide), if_neg (by rw [ka]; decide), if_neg (by simp; omega), if_pos ⟨by have := HK0.out; omega, ho⟩]
                have HF : Hid (smpFault xs = 7) := Lib.hid (by rw [HE.out (by rw [h7]; decide), h7])
                clear h7 hw
                have hw := hbw
                generalize orOf [cmpI pa xa, Lib.compareBytes pp.data.toList xp.data.toList] = o at *
                go_wp2_with fail
                go_ret
                exact ⟨ret_eq HF.out.symm, (hbw.alloc hbw.size _).drew⟩
              · have h7 : smpCode xs k = 0 := by rw [HC.out, if_neg (by rw [kt]; decide), if_neg (by rw [ka]; decide), if_neg (by simp; omega), if_neg (fun h => ho h.2)]
                have HR : Hid (∀ j, j < k + 1 → smpCode xs j = 0) := Lib.hid (fun j hj => by
                  by_cases e : j = k
                  · rw [e]; exact h7
                  · exact hrel.out j (by omega))
                clear h7 hrel
                generalize orOf [cmpI pa xa, Lib.compareBytes pp.data.toList xp.data.toList] = o at *
                go_wp2_with fail
                go_roundw
                case rel => exact ⟨k + 1, by omega, by go_num, HR, hw⟩
                case measure => simp [intOf]; omega
          · have HF : Hid (smpFault xs = 1) := Lib.hid (by have h5 : smpCode xs k = 1 := by rw [HC.out, if_neg (by rw [kt]; decide), if_neg (by rw [ka]; decide), if_pos km]
                                                           rw [HE.out (by rw [h5]; decide), h5])
            have hin : (decide ((-1 : Int) ≤ xm) && decide (xm ≤ 1000000)) = false := by simp; omega
            clear km
            go_wp2_with fail
            refine (in1_any _ _ _ _).mono ?_
            rintro e w3 ⟨rfl, rfl⟩
            rw [hin]
            go_wp2_with fail
            go_ret
            exact ⟨ret_eq HF.out.symm, hbw⟩
    · have : k = xs.length := by omega
      subst this
      have HF : Hid (smpFault xs = 0) := Lib.hid (smpFault_none hl hrel.out)
      clear hrel
      go_wp2_with fail
      go_ret
      exact ⟨ret_eq HF.out.symm, hb⟩
end Go.Proofs.YtdkgmmngoojamaaGreatDoor
