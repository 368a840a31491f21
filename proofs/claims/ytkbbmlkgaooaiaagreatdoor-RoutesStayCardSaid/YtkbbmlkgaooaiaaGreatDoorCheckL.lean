/- route.CheckLinks: what is wrong with links. -/
import Derived.Test.YtkbbmlkgaooaiaaGreatDoorFlt
namespace Go.Proofs.YtkbbmlkgaooaiaaGreatDoor
open Go.RowKit Go.Hw Go.Shelf

theorem isKey_below (s : ByteArray) (w : World) (hs : s.size ≤ maxLen) :
    Calls Tryz.prog 35 #[.string s] w fun e w' => e = .returned (.bool (isKey s)) ∧ Below w.heap.size w w' :=
  (isKey_any s w hs).mono fun _ _ ⟨h1, h2⟩ => ⟨h1, h2 ▸ Below.refl _ _⟩

set_option maxRecDepth 100000 in
set_option maxHeartbeats 1000000 in
theorem checkLinks_any (A : Option Addr) (cap : Nat) (xs : List Lk) (w : World) (h : LksAt w w.heap.size A xs) (hl : xs.length ≤ 1000000) (hss : ∀ i, (xs.getD i noLk).a.size ≤ maxLen ∧ (xs.getD i noLk).b.size ≤ maxLen) :
    Calls Tryz.prog 34 #[.slice A xs.length cap] w fun e w' => e = .returned (.int .i64 (linksFault xs)) ∧ Below w.heap.size w w' := by
  by_cases hlong : 500 < xs.length
  · have hfin : linksFault xs = 2 := by unfold linksFault; rw [if_pos hlong]
    have HF := Lib.hid hfin
    clear hfin h hss
    go_enter Tryz.func34, Tryz.ntmps34
    go_wp2_with fail
    go_ret
    exact ⟨ret_eq HF.out.symm, Below.refl _ _⟩
  · have H := Lib.hid h
    have HS := Lib.hid hss
    clear h hss
    go_enter Tryz.func34, Tryz.ntmps34
    go_wp2_with fail
    go_loopw [10] (fun i wr => ∃ k : Nat, k ≤ xs.length ∧ i = .int .i64 k ∧ Hid (∀ j, j < k → linkCode xs j = 0) ∧ Below w.heap.size w wr) (fun i _ => xs.length - (intOf i).toNat)
    case atStart => exact ⟨0, Nat.zero_le _, rfl, Lib.hid (fun j h => absurd h (by omega)), Below.refl _ _⟩
    case round =>
      obtain ⟨k, hk, rfl, hrel, hb⟩ := hrel
      by_cases hlt : k < xs.length
      · obtain ⟨g, off, rfl, hg, c0, c1, c2⟩ := (H.out.below hb) k hlt
        have hcode : linkCode xs k = linkCode xs k := rfl
        conv at hcode => rhs; unfold linkCode
        have HC := Lib.hid hcode
        have HE : Hid (linkCode xs k ≠ 0 → linksFault xs = linkCode xs k) := Lib.hid (linksFault_at (by omega) hlt hrel.out)
        obtain ⟨s1, s2⟩ := HS.out k
        clear hcode
        generalize xs.getD k noLk = x at *
        obtain ⟨xa, xb, xm⟩ := x
        cases ka : isKey xa
        · have HF : Hid (linksFault xs = 5) := Lib.hid (by have h5 : linkCode xs k = 5 := by rw [HC.out, if_pos ka]
                                                           rw [HE.out (by rw [h5]; decide), h5])
          go_wp2_with fail
          refine (isKey_below xa _ s1).mono ?_
          rintro e w1 ⟨rfl, hb1⟩
          rw [ka]
          go_wp2_with fail
          go_ret
          exact ⟨ret_eq HF.out.symm, below_box hb hb.size hb1⟩
        · cases kb : isKey xb
          · have HF : Hid (linksFault xs = 5) := Lib.hid (by have h5 : linkCode xs k = 5 := by rw [HC.out, if_neg (by rw [ka]; decide), if_pos kb]
                                                             rw [HE.out (by rw [h5]; decide), h5])
            go_wp2_with fail
            refine (isKey_below xa _ s1).mono ?_
            rintro e w1 ⟨rfl, hb1⟩
            have x1 := box_cells (cs := [.string xa, .string xb, .int .i64 xm]) hb1 1 _ rfl
            rw [ka]
            go_wp2_with fail
            refine (isKey_below xb _ s2).mono ?_
            rintro e w2 ⟨rfl, hb2⟩
            rw [kb]
            go_wp2_with fail
            go_ret
            exact ⟨ret_eq HF.out.symm, (below_box hb hb.size hb1).trans (hb2.mono (Nat.le_trans hb.size (Nat.le_trans (by simp) hb1.size)))⟩
          · go_wp2_with fail
            refine (isKey_below xa _ s1).mono ?_
            rintro e w1 ⟨rfl, hb1⟩
            have x1 := box_cells (cs := [.string xa, .string xb, .int .i64 xm]) hb1 1 _ rfl
            rw [ka]
            go_wp2_with fail
            refine (isKey_below xb _ s2).mono ?_
            rintro e w2 ⟨rfl, hb2⟩
            rw [kb]
            have hb12 := hb1.trans (hb2.mono hb1.size)
            have x0 := box_cells (cs := [.string xa, .string xb, .int .i64 xm]) hb12 0 _ rfl
            have x1 := box_cells (cs := [.string xa, .string xb, .int .i64 xm]) hb12 1 _ rfl
            have x2 := box_cells (cs := [.string xa, .string xb, .int .i64 xm]) hb12 2 _ rfl
            have hbw := below_box hb hb.size hb12
            clear hb1 hb2 hb12 hb
            cases kg : (!Op.bytesLess xa.toList xb.toList)
            · by_cases km : 0 ≤ xm ∧ xm ≤ 1000000
              · have hin : (decide (xm < 0) || decide (1000000 < xm)) = false := by simp; omega
                by_cases k0 : k = 0
                · have HN : Hid (linkCode xs k = 0) := Lib.hid (by rw [HC.out, if_neg (by rw [ka]; decide), if_neg (by rw [kb]; decide), if_neg (by unfold strGeq; rw [kg]; decide), if_neg (by simp; omega), if_neg (by omega)])
                  have hd : decide (0 < k) = false := by simp; omega
                  have HR : Hid (∀ j, j < k + 1 → linkCode xs j = 0) := Lib.hid (fun j hj => by
                    by_cases e : j = k
                    · rw [e]; exact HN.out
                    · exact hrel.out j (by omega))
                  clear k0 hrel
                  go_wp2_with fail
                  refine (outside_any _ _ _ _).mono ?_
                  rintro e w3 ⟨rfl, rfl⟩
                  rw [hin]
                  go_wp2_with fail
                  go_quiet (fail)
                  go_wp2_with fail
                  go_roundw
                  case rel => exact ⟨k + 1, by omega, by go_num, HR, ⟨hbw.os, hbw.tape, hbw.output, hbw.size, hbw.block⟩⟩
                  case measure => simp [intOf]; omega
                · obtain ⟨g', off', e', hg', p0, p1, p2⟩ := (H.out.below hbw) (k - 1) (by omega)
                  injection e' with e'
                  injection e' with e1 e2
                  subst e1 e2
                  have hkk : (k : Int) - 1 = ((k - 1 : Nat) : Int) := by omega
                  have HK := Lib.hid hkk
                  have HK0 := Lib.hid k0
                  have k0' : 0 < k := by omega
                  have hk1 : 0 ≤ (k : Int) - 1 := by omega
                  have hk2 : (k : Int) - 1 < (xs.length : Int) := by omega
                  clear hkk k0 p2
                  generalize hp : xs.getD (k - 1) noLk = p at *
                  obtain ⟨pa, pb, pm⟩ := p
                  have HP := Lib.hid hp
                  clear hp
                  go_wp2_with fail
                  refine (outside_any _ _ _ _).mono ?_
                  rintro e w3 ⟨rfl, rfl⟩
                  rw [hin]
                  have hd : decide (0 < k) = true := by simp; omega
                  go_wp2_with fail
                  have s1' : (1 : Int) ≤ (k : Int) := by omega
                  have s0 : IntKind.i64.wrap ((k : Int) - 1) = (k : Int) - 1 := IntWalk.i64_in _ (by omega)
                  have s2' : ((k : Int) - 1).toNat = k - 1 := by omega
                  go_region_held3 (fun w' => w'.cell? ⟨g, off + (k - 1) * 3, none⟩ = some (.string pa) ∧ w'.cell? ⟨g, off + (k - 1) * 3 + 1, none⟩ = some (.string pb) ∧
                      w'.cell? ⟨wr.heap.size, 0, none⟩ = some (.string xa) ∧ w'.cell? ⟨wr.heap.size, 1, none⟩ = some (.string xb))
                    (first | go_keep | exact ⟨p0, p1, x0, x1⟩)
                    ((first | (go_at_call 31; refine (cmp_any _ _ _).mono ?_; rintro e w' ⟨rfl, rfl⟩) | (go_at_call 29; refine (or_any w2.heap.size [Lib.compareBytes pa.data.toList xa.data.toList, Lib.compareBytes pb.data.toList xb.data.toList] _ (by exact heap_alloc_new w2 _) 2 2 rfl (by simp)).mono ?_; rintro e w' ⟨rfl, rfl⟩)))
                  clear s1' s0 s2' hd k0' hk1 hk2
                  have hw : Below w.heap.size w (w2.alloc (.cells #[.int .i64 (Lib.compareBytes pa.data.toList xa.data.toList), .int .i64 (Lib.compareBytes pb.data.toList xb.data.toList)] 3)).drew := (hbw.alloc hbw.size _).drew
                  by_cases ho : 0 ≤ orOf [Lib.compareBytes pa.data.toList xa.data.toList, Lib.compareBytes pb.data.toList xb.data.toList]
                  · have h7 : linkCode xs k = 7 := by rw [HC.out, if_neg (by rw [ka]; decide), if_neg (by rw [kb]; decide), if_neg (by unfold strGeq; rw [kg]; decide), if_neg (by simp; omega), if_pos ⟨by have := HK0.out; omega, ho⟩]
                    have HF : Hid (linksFault xs = 7) := Lib.hid (by rw [HE.out (by rw [h7]; decide), h7])
                    clear h7 hw
                    have hw := hbw
                    generalize orOf [Lib.compareBytes pa.data.toList xa.data.toList, Lib.compareBytes pb.data.toList xb.data.toList] = o at *
                    go_wp2_with fail
                    go_ret
                    exact ⟨ret_eq HF.out.symm, (hbw.alloc hbw.size _).drew⟩
                  · have h7 : linkCode xs k = 0 := by rw [HC.out, if_neg (by rw [ka]; decide), if_neg (by rw [kb]; decide), if_neg (by unfold strGeq; rw [kg]; decide), if_neg (by simp; omega), if_neg (fun h => ho h.2)]
                    have HR : Hid (∀ j, j < k + 1 → linkCode xs j = 0) := Lib.hid (fun j hj => by
                      by_cases e : j = k
                      · rw [e]; exact h7
                      · exact hrel.out j (by omega))
                    clear h7 hrel
                    generalize orOf [Lib.compareBytes pa.data.toList xa.data.toList, Lib.compareBytes pb.data.toList xb.data.toList] = o at *
                    go_wp2_with fail
                    go_roundw
                    case rel => exact ⟨k + 1, by omega, by go_num, HR, hw⟩
                    case measure => simp [intOf]; omega
              · have HF : Hid (linksFault xs = 1) := Lib.hid (by have h5 : linkCode xs k = 1 := by rw [HC.out, if_neg (by rw [ka]; decide), if_neg (by rw [kb]; decide), if_neg (by unfold strGeq; rw [kg]; decide), if_pos km]
                                                                 rw [HE.out (by rw [h5]; decide), h5])
                have hin : (decide (xm < 0) || decide (1000000 < xm)) = true := by simp; omega
                clear km
                go_wp2_with fail
                refine (outside_any _ _ _ _).mono ?_
                rintro e w3 ⟨rfl, rfl⟩
                rw [hin]
                go_wp2_with fail
                go_ret
                exact ⟨ret_eq HF.out.symm, hbw⟩
            · have h7 : linkCode xs k = 7 := by rw [HC.out, if_neg (by rw [ka]; decide), if_neg (by rw [kb]; decide), if_pos (by unfold strGeq; exact kg)]
              have HF : Hid (linksFault xs = 7) := Lib.hid (by rw [HE.out (by rw [h7]; decide), h7])
              clear h7
              go_wp2_with fail
              go_ret
              exact ⟨ret_eq HF.out.symm, hbw⟩
      · have : k = xs.length := by omega
        subst this
        have HF : Hid (linksFault xs = 0) := Lib.hid (linksFault_none (by omega) hrel.out)
        clear hrel
        go_wp2_with fail
        go_ret
        exact ⟨ret_eq HF.out.symm, hb⟩
end Go.Proofs.YtkbbmlkgaooaiaaGreatDoor
