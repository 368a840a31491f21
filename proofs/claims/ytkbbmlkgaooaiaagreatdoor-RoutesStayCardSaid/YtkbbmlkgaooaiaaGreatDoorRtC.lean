/- What is wrong with a log of health, in the program: route.CheckHealth tells the same as laneref1.HealthFault. What is wrong with a prefix and with routers, in the program: addr.CheckPrefix, route.CheckRouters tell what laneref2 and laneref1 tell. -/
import Derived.Test.YtkbbmlkgaooaiaaGreatDoorHlA
import Derived.Test.YtkbbmlkgaooaiaaGreatDoorMkE
namespace Go.Proofs.YtkbbmlkgaooaiaaGreatDoor
open Go.RowKit Go.Hw Go.Shelf

set_option maxRecDepth 100000 in
set_option maxHeartbeats 1000000 in
theorem checkHealth_full (A : Option Addr) (cap : Nat) (xs : List Hl) (w : World) (h : HlsAt w w.heap.size A xs) (hl : xs.length ≤ 2000) (hss : ∀ i, (xs.getD i noHl).node.size ≤ maxLen) :
    Calls Tryz.prog 47 #[.slice A xs.length cap] w fun e w' => e = .returned (.int .i64 (hlFault xs)) ∧ Below w.heap.size w w' := by
  have H := Lib.hid h
  have HS := Lib.hid hss
  clear h hss
  go_enter Tryz.func47, Tryz.ntmps47
  go_wp2_with fail
  go_loopw [10] (fun i wr => ∃ k : Nat, k ≤ xs.length ∧ i = .int .i64 k ∧ Hid (∀ j, j < k → hlCode xs j = 0) ∧ Below w.heap.size w wr) (fun i _ => xs.length - (intOf i).toNat)
  case atStart => exact ⟨0, Nat.zero_le _, rfl, Lib.hid (fun j h => absurd h (by omega)), Below.refl _ _⟩
  case round =>
    obtain ⟨k, hk, rfl, hrel, hb⟩ := hrel
    by_cases hlt : k < xs.length
    · obtain ⟨g, off, rfl, hg, c0, c1, c2⟩ := (H.out.below hb) k hlt
      have hcode : hlCode xs k = hlCode xs k := rfl
      conv at hcode => rhs; unfold hlCode
      have HC := Lib.hid hcode
      have HE : Hid (hlCode xs k ≠ 0 → hlFault xs = hlCode xs k) := Lib.hid (hlFault_at hl hlt hrel.out)
      have s1 := HS.out k
      clear hcode
      generalize xs.getD k noHl = x at *
      obtain ⟨xa, xp, xm⟩ := x
      simp only at c0 c1 c2 s1
      have hb1 : Below w.heap.size w (wr.alloc (.cells #[.int .i64 xa, .string xp, .bool xm] 58)) := hb.alloc hb.size _
      cases kt : isMom xa
      · have HF : Hid (hlFault xs = 1) := Lib.hid (by have h5 : hlCode xs k = 1 := (by rw [HC.out, if_pos kt]); rw [HE.out (by rw [h5]; decide), h5])
        go_wp2_with fail
        refine (isMom_any xa _).mono ?_
        rintro e w1 ⟨rfl, rfl⟩
        rw [kt]
        go_wp2_with fail
        go_ret
        exact ⟨ret_eq HF.out.symm, hb1⟩
      · cases ka : isKey xp
        · have HF : Hid (hlFault xs = 5) := Lib.hid (by have h5 : hlCode xs k = 5 := (by rw [HC.out, if_neg (by rw [kt]; decide), if_pos ka]); rw [HE.out (by rw [h5]; decide), h5])
          go_wp2_with fail
          refine (isMom_any xa _).mono ?_
          rintro e w1 ⟨rfl, rfl⟩
          rw [kt]
          go_wp2_with fail
          refine (isKey_any xp _ s1).mono ?_
          rintro e w1 ⟨rfl, rfl⟩
          rw [ka]
          go_wp2_with fail
          go_ret
          exact ⟨ret_eq HF.out.symm, hb1⟩
        · by_cases k0 : k = 0
          · have HN : Hid (hlCode xs k = 0) := Lib.hid (by rw [HC.out, if_neg (by rw [kt]; decide), if_neg (by rw [ka]; decide), if_neg (by omega)])
            have hd : decide (0 < k) = false := by simp; omega
            have HR : Hid (∀ j, j < k + 1 → hlCode xs j = 0) := Lib.hid (fun j hj => by
              by_cases e : j = k
              · rw [e]; exact HN.out
              · exact hrel.out j (by omega))
            clear k0 hrel
            go_wp2_with fail
            refine (isMom_any xa _).mono ?_
            rintro e w1 ⟨rfl, rfl⟩
            rw [kt]
            go_wp2_with fail
            refine (isKey_any xp _ s1).mono ?_
            rintro e w1 ⟨rfl, rfl⟩
            rw [ka]
            go_wp2_with fail
            go_quiet (fail)
            go_wp2_with fail
            go_roundw
            case rel => exact ⟨k + 1, by omega, by go_num, HR, ⟨hb1.os, hb1.tape, hb1.output, hb1.size, hb1.block⟩⟩
            case measure => simp [intOf]; omega
          · obtain ⟨g', off', e', hg', p0, p1, p2⟩ := (H.out.below hb1) (k - 1) (by omega)
            injection e' with e'
            injection e' with e1 e2
            subst e1 e2
            have hkk : (k : Int) - 1 = ((k - 1 : Nat) : Int) := by omega
            have HK := Lib.hid hkk
            have HK0 := Lib.hid k0
            have k0' : 0 < k := by omega
            have hk1 : 0 ≤ (k : Int) - 1 := by omega
            have hk2 : (k : Int) - 1 < (xs.length : Int) := by omega
            clear hkk k0 p2
            generalize hp : xs.getD (k - 1) noHl = p at *
            obtain ⟨pa, pp, pm⟩ := p
            simp only at p0 p1
            clear hp
            go_wp2_with fail
            refine (isMom_any xa _).mono ?_
            rintro e w1 ⟨rfl, rfl⟩
            rw [kt]
            go_wp2_with fail
            refine (isKey_any xp _ s1).mono ?_
            rintro e w1 ⟨rfl, rfl⟩
            rw [ka]
            go_wp2_with fail
            have hd : decide (0 < k) = true := by simp; omega
            have x0 : (wr.alloc (.cells #[.int .i64 xa, .string xp, .bool xm] 58)).cell? ⟨wr.heap.size, 0, none⟩ = some (.int .i64 xa) := by simp only [World.cell?, heap_alloc_new]; rfl
            have x1 : (wr.alloc (.cells #[.int .i64 xa, .string xp, .bool xm] 58)).cell? ⟨wr.heap.size, 1, none⟩ = some (.string xp) := by simp only [World.cell?, heap_alloc_new]; rfl
            have hlw : wr.heap.size < (wr.alloc (.cells #[.int .i64 xa, .string xp, .bool xm] 58)).heap.size := by simp
            go_wp2_with fail
            generalize hW : World.alloc _ _ = W at *
            clear hW
            have s1' : (1 : Int) ≤ (k : Int) := by omega
            have s0 : IntKind.i64.wrap ((k : Int) - 1) = (k : Int) - 1 := IntWalk.i64_in _ (by omega)
            have s2' : ((k : Int) - 1).toNat = k - 1 := by omega
            go_region_held3 (fun w' => w'.cell? ⟨g, off + (k - 1) * 3, none⟩ = some (.int .i64 pa) ∧ w'.cell? ⟨g, off + (k - 1) * 3 + 1, none⟩ = some (.string pp) ∧
                w'.cell? ⟨wr.heap.size, 0, none⟩ = some (.int .i64 xa) ∧ w'.cell? ⟨wr.heap.size, 1, none⟩ = some (.string xp))
              (first | go_keep | exact ⟨p0, p1, x0, x1⟩)
              ((first | (go_at_call 33; refine (cmpI_any _ _ _).mono ?_; rintro e w' ⟨rfl, rfl⟩) | (go_at_call 31; refine (cmp_any _ _ _).mono ?_; rintro e w' ⟨rfl, rfl⟩) | (go_at_call 29; refine (or_any W.heap.size [cmpI pa xa, Lib.compareBytes pp.data.toList xp.data.toList] _ (by exact heap_alloc_new W _) 2 2 rfl (by simp)).mono ?_; rintro e w' ⟨rfl, rfl⟩)))
            clear s1' s0 s2' hd k0' hk1 hk2
            have hw : Below w.heap.size w (W.alloc (.cells #[.int .i64 (cmpI pa xa), .int .i64 (Lib.compareBytes pp.data.toList xp.data.toList)] 3)).drew := (hb1.alloc hb1.size _).drew
            by_cases ho : 0 ≤ orOf [cmpI pa xa, Lib.compareBytes pp.data.toList xp.data.toList]
            · have h7 : hlCode xs k = 7 := by rw [HC.out, if_neg (by rw [kt]; decide), if_neg (by rw [ka]; decide), if_pos ⟨by have := HK0.out; omega, ho⟩]
              have HF : Hid (hlFault xs = 7) := Lib.hid (by rw [HE.out (by rw [h7]; decide), h7])
              clear h7
              generalize orOf [cmpI pa xa, Lib.compareBytes pp.data.toList xp.data.toList] = o at *
              go_wp2_with fail
              go_ret
              exact ⟨ret_eq HF.out.symm, hw⟩
            · have h7 : hlCode xs k = 0 := by rw [HC.out, if_neg (by rw [kt]; decide), if_neg (by rw [ka]; decide), if_neg (fun h => ho h.2)]
              have HR : Hid (∀ j, j < k + 1 → hlCode xs j = 0) := Lib.hid (fun j hj => by
                by_cases e : j = k
                · rw [e]; exact h7
                · exact hrel.out j (by omega))
              clear h7 hrel
              generalize orOf [cmpI pa xa, Lib.compareBytes pp.data.toList xp.data.toList] = o at *
              go_wp2_with fail
              go_roundw
              case rel => exact ⟨k + 1, by omega, by go_num, HR, hw⟩
              case measure => simp [intOf]; omega
    · have : k = xs.length := by omega
      subst this
      have HF : Hid (hlFault xs = 0) := Lib.hid (hlFault_none hl hrel.out)
      clear hrel
      go_wp2_with fail
      go_ret
      exact ⟨ret_eq HF.out.symm, hb⟩
end Go.Proofs.YtkbbmlkgaooaiaaGreatDoor

namespace Go.Proofs.YtkbbmlkgaooaiaaGreatDoor
open Go.RowKit Go.Hw Go.Shelf

set_option maxRecDepth 100000 in
set_option maxHeartbeats 1000000 in
theorem checkPrefix_1 (s : Bool) (h l b : Int) (w : World) (uh : U64 h) (_ul : U64 l) (ha : addrCode s h l = 3) :
    Calls Tryz.prog 83 #[.agg #[.bool s, .int .u64 h, .int .u64 l, .int .i64 b]] w fun e w' => e = .returned (.int .i64 3) ∧ Below w.heap.size w w' := by
  have HA := Lib.hid ha
  have b0 : (w.alloc (pfBox s h l b)).heap[w.heap.size]? = some (pfBox s h l b) := heap_alloc_new w _
  obtain ⟨⟨x0, x1, x2, x3⟩, -⟩ := res4 b0
  have HB := Lib.hid ((Below.refl w.heap.size w).alloc (Nat.le_refl _) (pfBox s h l b))
  have hsz : w.heap.size + 1 ≤ (w.alloc (pfBox s h l b)).heap.size := by simp
  unfold pfBox at x0 x1 x2 x3 hsz
  have hu := uh.1
  clear b0 ha
  go_enter Tryz.func83, Tryz.ntmps83
  go_wp2_with fail
  generalize hW : World.alloc _ _ = W at x0 x1 x2 x3 hsz ⊢
  have HBW : Hid (Below w.heap.size w W) := Lib.hid (by rw [← hW]; exact HB.out)
  clear hW HB
  refine (checkAddr_any s h l _ hu).mono ?_
  rintro e W1 ⟨rfl, hb1⟩
  rw [HA.out]
  have x0 : W1.cell? ⟨w.heap.size, 0, none⟩ = some (.bool s) := (hb1.cell (p := ⟨w.heap.size, 0, none⟩) (by first | (simp; done) | (simp; omega) | omega)).trans (by first | assumption | (go_simp; done)); have x1 : W1.cell? ⟨w.heap.size, 1, none⟩ = some (.int .u64 h) := (hb1.cell (p := ⟨w.heap.size, 1, none⟩) (by first | (simp; done) | (simp; omega) | omega)).trans (by first | assumption | (go_simp; done)); have x2 : W1.cell? ⟨w.heap.size, 2, none⟩ = some (.int .u64 l) := (hb1.cell (p := ⟨w.heap.size, 2, none⟩) (by first | (simp; done) | (simp; omega) | omega)).trans (by first | assumption | (go_simp; done)); have x3 : W1.cell? ⟨w.heap.size, 3, none⟩ = some (.int .i64 b) := (hb1.cell (p := ⟨w.heap.size, 3, none⟩) (by first | (simp; done) | (simp; omega) | omega)).trans (by first | assumption | (go_simp; done))
  have hsz : w.heap.size + 1 ≤ W1.heap.size := (by have := hb1.size; (try simp at this); omega); have hl0 : w.heap.size < W1.heap.size := (by omega)
  have HBW : Hid (Below w.heap.size w W1) := (by first | exact Lib.hid (HBW.out.trans (hb1.mono (by omega))) | exact Lib.hid (HBW.out.drew.trans (hb1.mono (show w.heap.size ≤ W.heap.size by omega))))
  clear hb1 hu
  go_wp2_with fail
  go_ret
  exact ⟨rfl, HBW.out⟩

set_option maxRecDepth 100000 in
set_option maxHeartbeats 1000000 in
theorem checkPrefix_2 (s : Bool) (h l b : Int) (w : World) (uh : U64 h) (_ul : U64 l) (ha : addrCode s h l = 0) (hr : ¬ (0 ≤ b ∧ b ≤ lenA s)) :
    Calls Tryz.prog 83 #[.agg #[.bool s, .int .u64 h, .int .u64 l, .int .i64 b]] w fun e w' => e = .returned (.int .i64 1) ∧ Below w.heap.size w w' := by
  have HA := Lib.hid ha
  have hin : (decide (b < 0) || decide (lenA s < b)) = true := by simp; omega
  have HIN := Lib.hid hin
  have b0 : (w.alloc (pfBox s h l b)).heap[w.heap.size]? = some (pfBox s h l b) := heap_alloc_new w _
  obtain ⟨⟨x0, x1, x2, x3⟩, -⟩ := res4 b0
  have HB := Lib.hid ((Below.refl w.heap.size w).alloc (Nat.le_refl _) (pfBox s h l b))
  have hsz : w.heap.size + 1 ≤ (w.alloc (pfBox s h l b)).heap.size := by simp
  unfold pfBox at x0 x1 x2 x3 hsz
  have hu := uh.1
  clear b0 ha hin hr
  go_enter Tryz.func83, Tryz.ntmps83
  go_wp2_with fail
  generalize hW : World.alloc _ _ = W at x0 x1 x2 x3 hsz ⊢
  have HBW : Hid (Below w.heap.size w W) := Lib.hid (by rw [← hW]; exact HB.out)
  clear hW HB
  refine (checkAddr_any s h l _ hu).mono ?_
  rintro e W1 ⟨rfl, hb1⟩
  rw [HA.out]
  have x0 : W1.cell? ⟨w.heap.size, 0, none⟩ = some (.bool s) := (hb1.cell (p := ⟨w.heap.size, 0, none⟩) (by first | (simp; done) | (simp; omega) | omega)).trans (by first | assumption | (go_simp; done)); have x1 : W1.cell? ⟨w.heap.size, 1, none⟩ = some (.int .u64 h) := (hb1.cell (p := ⟨w.heap.size, 1, none⟩) (by first | (simp; done) | (simp; omega) | omega)).trans (by first | assumption | (go_simp; done)); have x2 : W1.cell? ⟨w.heap.size, 2, none⟩ = some (.int .u64 l) := (hb1.cell (p := ⟨w.heap.size, 2, none⟩) (by first | (simp; done) | (simp; omega) | omega)).trans (by first | assumption | (go_simp; done)); have x3 : W1.cell? ⟨w.heap.size, 3, none⟩ = some (.int .i64 b) := (hb1.cell (p := ⟨w.heap.size, 3, none⟩) (by first | (simp; done) | (simp; omega) | omega)).trans (by first | assumption | (go_simp; done))
  have hsz : w.heap.size + 1 ≤ W1.heap.size := (by have := hb1.size; (try simp at this); omega); have hl0 : w.heap.size < W1.heap.size := (by omega)
  have HBW : Hid (Below w.heap.size w W1) := (by first | exact Lib.hid (HBW.out.trans (hb1.mono (by omega))) | exact Lib.hid (HBW.out.drew.trans (hb1.mono (show w.heap.size ≤ W.heap.size by omega))))
  clear hb1 hu
  go_wp2_with fail
  go_region_held3 (fun w' => w'.cell? ⟨w.heap.size, 0, none⟩ = some (.bool s) ∧ w'.cell? ⟨w.heap.size, 1, none⟩ = some (.int .u64 h) ∧ w'.cell? ⟨w.heap.size, 2, none⟩ = some (.int .u64 l) ∧ w'.cell? ⟨w.heap.size, 3, none⟩ = some (.int .i64 b))
    (first | exact ⟨x0, x1, x2, x3⟩ | ((repeat' apply And.intro) <;> (first | (go_simp; done) | with_reducible assumption)))
    (first
      | (go_at_call 107; refine (spanLength_any _ _ _ _).mono ?_; rintro e W2 ⟨rfl, hb2⟩; have x0 : W2.cell? ⟨w.heap.size, 0, none⟩ = some (.bool s) := (hb2.cell (p := ⟨w.heap.size, 0, none⟩) (by first | (simp; done) | (simp; omega) | omega)).trans (by first | assumption | (go_simp; done)); have x1 : W2.cell? ⟨w.heap.size, 1, none⟩ = some (.int .u64 h) := (hb2.cell (p := ⟨w.heap.size, 1, none⟩) (by first | (simp; done) | (simp; omega) | omega)).trans (by first | assumption | (go_simp; done)); have x2 : W2.cell? ⟨w.heap.size, 2, none⟩ = some (.int .u64 l) := (hb2.cell (p := ⟨w.heap.size, 2, none⟩) (by first | (simp; done) | (simp; omega) | omega)).trans (by first | assumption | (go_simp; done)); have x3 : W2.cell? ⟨w.heap.size, 3, none⟩ = some (.int .i64 b) := (hb2.cell (p := ⟨w.heap.size, 3, none⟩) (by first | (simp; done) | (simp; omega) | omega)).trans (by first | assumption | (go_simp; done)); have hsz : w.heap.size + 1 ≤ W2.heap.size := (by have := hb2.size; (try simp at this); omega); have hl0 : w.heap.size < W2.heap.size := (by omega); have HBW : Hid (Below w.heap.size w W2) := (by first | exact Lib.hid (HBW.out.trans (hb2.mono (by omega))) | exact Lib.hid (HBW.out.drew.trans (hb2.mono (show w.heap.size ≤ W1.heap.size by omega)))))
      | (go_at_call 61; refine (outside_any _ _ _ _).mono ?_; rintro e W9 ⟨rfl, rfl⟩; rw [HIN.out]))
  go_wp2_with fail
  go_ret
  exact ⟨rfl, HBW.out⟩

set_option maxRecDepth 100000 in
set_option maxHeartbeats 1000000 in
theorem checkPrefix_3 (s : Bool) (h l b : Int) (w : World) (uh : U64 h) (ul : U64 l) (ha : addrCode s h l = 0) (hr : 0 ≤ b ∧ b ≤ lenA s) (m : Nat) (hm : lenA s - b = m) (hm2 : m ≤ 128) (hne : ¬ (clr h (m - 64) = h ∧ clr l (min 64 m) = l)) :
    Calls Tryz.prog 83 #[.agg #[.bool s, .int .u64 h, .int .u64 l, .int .i64 b]] w fun e w' => e = .returned (.int .i64 3) ∧ Below w.heap.size w w' := by
  have HA := Lib.hid ha
  have HM := Lib.hid hm
  have hin : (decide (b < 0) || decide (lenA s < b)) = false := by simp; omega
  have HIN := Lib.hid hin
  have b0 : (w.alloc (pfBox s h l b)).heap[w.heap.size]? = some (pfBox s h l b) := heap_alloc_new w _
  obtain ⟨⟨x0, x1, x2, x3⟩, -⟩ := res4 b0
  have HB := Lib.hid ((Below.refl w.heap.size w).alloc (Nat.le_refl _) (pfBox s h l b))
  have hsz : w.heap.size + 1 ≤ (w.alloc (pfBox s h l b)).heap.size := by simp
  unfold pfBox at x0 x1 x2 x3 hsz
  have hu := uh.1
  have hq := fun W => (run_eq_addr 9998 s s (clr h (m - 64)) h (clr l (min 64 m)) l W).trans (show _ = Result.ok false W from by
    rw [show (s == s && (clr h (m - 64) == h && clr l (min 64 m) == l)) = false from by
      cases e1 : (clr h (m - 64) == h)
      · simp
      · cases e2 : (clr l (min 64 m) == l)
        · simp
        · exact absurd ⟨by simpa using e1, by simpa using e2⟩ hne])
  have hgd := guard_addr
  clear b0 ha hm hin hne
  go_enter Tryz.func83, Tryz.ntmps83
  go_wp2_with fail
  generalize hW : World.alloc _ _ = W at x0 x1 x2 x3 hsz ⊢
  have HBW : Hid (Below w.heap.size w W) := Lib.hid (by rw [← hW]; exact HB.out)
  clear hW HB
  refine (checkAddr_any s h l _ hu).mono ?_
  rintro e W1 ⟨rfl, hb1⟩
  rw [HA.out]
  have x0 : W1.cell? ⟨w.heap.size, 0, none⟩ = some (.bool s) := (hb1.cell (p := ⟨w.heap.size, 0, none⟩) (by first | (simp; done) | (simp; omega) | omega)).trans (by first | assumption | (go_simp; done)); have x1 : W1.cell? ⟨w.heap.size, 1, none⟩ = some (.int .u64 h) := (hb1.cell (p := ⟨w.heap.size, 1, none⟩) (by first | (simp; done) | (simp; omega) | omega)).trans (by first | assumption | (go_simp; done)); have x2 : W1.cell? ⟨w.heap.size, 2, none⟩ = some (.int .u64 l) := (hb1.cell (p := ⟨w.heap.size, 2, none⟩) (by first | (simp; done) | (simp; omega) | omega)).trans (by first | assumption | (go_simp; done)); have x3 : W1.cell? ⟨w.heap.size, 3, none⟩ = some (.int .i64 b) := (hb1.cell (p := ⟨w.heap.size, 3, none⟩) (by first | (simp; done) | (simp; omega) | omega)).trans (by first | assumption | (go_simp; done))
  have hsz : w.heap.size + 1 ≤ W1.heap.size := (by have := hb1.size; (try simp at this); omega); have hl0 : w.heap.size < W1.heap.size := (by omega)
  have HBW : Hid (Below w.heap.size w W1) := (by first | exact Lib.hid (HBW.out.trans (hb1.mono (by omega))) | exact Lib.hid (HBW.out.drew.trans (hb1.mono (show w.heap.size ≤ W.heap.size by omega))))
  clear hb1 hu
  go_wp2_with fail
  go_region_held3 (fun w' => w'.cell? ⟨w.heap.size, 0, none⟩ = some (.bool s) ∧ w'.cell? ⟨w.heap.size, 1, none⟩ = some (.int .u64 h) ∧ w'.cell? ⟨w.heap.size, 2, none⟩ = some (.int .u64 l) ∧ w'.cell? ⟨w.heap.size, 3, none⟩ = some (.int .i64 b))
    (first | exact ⟨x0, x1, x2, x3⟩ | ((repeat' apply And.intro) <;> (first | (go_simp; done) | with_reducible assumption)))
    (first
      | (go_at_call 107; refine (spanLength_any _ _ _ _).mono ?_; rintro e W2 ⟨rfl, hb2⟩; have x0 : W2.cell? ⟨w.heap.size, 0, none⟩ = some (.bool s) := (hb2.cell (p := ⟨w.heap.size, 0, none⟩) (by first | (simp; done) | (simp; omega) | omega)).trans (by first | assumption | (go_simp; done)); have x1 : W2.cell? ⟨w.heap.size, 1, none⟩ = some (.int .u64 h) := (hb2.cell (p := ⟨w.heap.size, 1, none⟩) (by first | (simp; done) | (simp; omega) | omega)).trans (by first | assumption | (go_simp; done)); have x2 : W2.cell? ⟨w.heap.size, 2, none⟩ = some (.int .u64 l) := (hb2.cell (p := ⟨w.heap.size, 2, none⟩) (by first | (simp; done) | (simp; omega) | omega)).trans (by first | assumption | (go_simp; done)); have x3 : W2.cell? ⟨w.heap.size, 3, none⟩ = some (.int .i64 b) := (hb2.cell (p := ⟨w.heap.size, 3, none⟩) (by first | (simp; done) | (simp; omega) | omega)).trans (by first | assumption | (go_simp; done)); have hsz : w.heap.size + 1 ≤ W2.heap.size := (by have := hb2.size; (try simp at this); omega); have hl0 : w.heap.size < W2.heap.size := (by omega); have HBW : Hid (Below w.heap.size w W2) := (by first | exact Lib.hid (HBW.out.trans (hb2.mono (by omega))) | exact Lib.hid (HBW.out.drew.trans (hb2.mono (show w.heap.size ≤ W1.heap.size by omega)))))
      | (go_at_call 61; refine (outside_any _ _ _ _).mono ?_; rintro e W9 ⟨rfl, rfl⟩; rw [HIN.out]))
  go_wp2_with fail
  go_region_held3 (fun w' => w'.cell? ⟨w.heap.size, 0, none⟩ = some (.bool s) ∧ w'.cell? ⟨w.heap.size, 1, none⟩ = some (.int .u64 h) ∧ w'.cell? ⟨w.heap.size, 2, none⟩ = some (.int .u64 l) ∧ w'.cell? ⟨w.heap.size, 3, none⟩ = some (.int .i64 b))
    (first | exact ⟨x0, x1, x2, x3⟩ | ((repeat' apply And.intro) <;> (first | (go_simp; done) | with_reducible assumption)))
    (first
      | (go_at_call 108; refine (masked_any s h l b _ uh ul m HM.out hm2).mono ?_; rintro e W3 ⟨rfl, hb3⟩; have x0 : W3.cell? ⟨w.heap.size, 0, none⟩ = some (.bool s) := (hb3.cell (p := ⟨w.heap.size, 0, none⟩) (by first | (simp; done) | (simp; omega) | omega)).trans (by first | assumption | (go_simp; done)); have x1 : W3.cell? ⟨w.heap.size, 1, none⟩ = some (.int .u64 h) := (hb3.cell (p := ⟨w.heap.size, 1, none⟩) (by first | (simp; done) | (simp; omega) | omega)).trans (by first | assumption | (go_simp; done)); have x2 : W3.cell? ⟨w.heap.size, 2, none⟩ = some (.int .u64 l) := (hb3.cell (p := ⟨w.heap.size, 2, none⟩) (by first | (simp; done) | (simp; omega) | omega)).trans (by first | assumption | (go_simp; done)); have x3 : W3.cell? ⟨w.heap.size, 3, none⟩ = some (.int .i64 b) := (hb3.cell (p := ⟨w.heap.size, 3, none⟩) (by first | (simp; done) | (simp; omega) | omega)).trans (by first | assumption | (go_simp; done)); have hsz : w.heap.size + 1 ≤ W3.heap.size := (by have := hb3.size; (try simp at this); omega); have hl0 : w.heap.size < W3.heap.size := (by omega); have HBW : Hid (Below w.heap.size w W3) := (by first | exact Lib.hid (HBW.out.trans (hb3.mono (by omega))) | exact Lib.hid (HBW.out.drew.trans (hb3.mono (show w.heap.size ≤ W2.heap.size by omega))))))
  go_wp2_with fail
  go_ret
  exact ⟨rfl, HBW.out⟩

theorem addrCode_or (s : Bool) (h l : Int) : addrCode s h l = 0 ∨ addrCode s h l = 3 := by
  unfold addrCode; split
  · exact .inr rfl
  · exact .inl rfl
theorem checkPrefix_full (s : Bool) (h l b : Int) (w : World) (uh : U64 h) (ul : U64 l) :
    Calls Tryz.prog 83 #[.agg #[.bool s, .int .u64 h, .int .u64 l, .int .i64 b]] w fun e w' => e = .returned (.int .i64 (pfCode s h l b)) ∧ Below w.heap.size w w' := by
  by_cases hc : pfCode s h l b = 0
  · rw [hc]; exact checkPrefix_any s h l b w uh ul hc
  have hl : lenA s ≤ 128 := by unfold lenA; split <;> omega
  rcases addrCode_or s h l with ha | ha
  · by_cases hr : 0 ≤ b ∧ b ≤ lenA s
    · obtain ⟨m, hm⟩ := Int.eq_ofNat_of_zero_le (show 0 ≤ lenA s - b by omega)
      have hmm : (lenA s - b).toNat = m := by omega
      have hf : pfCode s h l b = 3 ∧ eqN (clrd (wd s h l) m) (wd s h l) = false := by
        unfold pfCode at hc ⊢
        rw [if_neg (by rw [ha]; decide), if_neg (fun h => h hr), hmm] at hc ⊢
        split at hc
        · rename_i h3; rw [if_pos h3]; exact ⟨rfl, h3⟩
        · exact absurd rfl hc
      rw [hf.1]
      refine checkPrefix_3 s h l b w uh ul ha hr m hm (by omega) (fun hx => ?_)
      have := (mask_iff (s := s) uh ul (m := m) (by omega)).2 hx
      rw [hf.2] at this
      cases this
    · have hf : pfCode s h l b = 1 := by unfold pfCode; rw [if_neg (by rw [ha]; decide), if_pos hr]
      rw [hf]
      exact checkPrefix_2 s h l b w uh ul ha hr
  · have hf : pfCode s h l b = 3 := by unfold pfCode; rw [if_pos (by rw [ha]; decide), ha]
    rw [hf]
    exact checkPrefix_1 s h l b w uh ul ha

set_option maxRecDepth 100000 in
set_option maxHeartbeats 2000000 in
theorem checkRouters_full (A : Option Addr) (cap : Nat) (xs : List Rt) (w : World) (h : RtsAt w w.heap.size A xs) (hl : xs.length ≤ 500) (ht : ∀ y ∈ xs, RtT y) :
    Calls Tryz.prog 46 #[.slice A xs.length cap] w fun e w' => e = .returned (.int .i64 (rtFault xs)) ∧ Below w.heap.size w w' := by
  have H := Lib.hid h
  have HT := Lib.hid (rtT_at ht)
  clear h ht
  go_enter Tryz.func46, Tryz.ntmps46
  go_wp2_with fail
  go_loopw [11] (fun i wr => ∃ k : Nat, k ≤ xs.length ∧ i = .int .i64 k ∧ Hid (∀ j, j < k → rtCode xs j = 0) ∧ Below w.heap.size w wr) (fun i _ => xs.length - (intOf i).toNat)
  case atStart => exact ⟨0, Nat.zero_le _, rfl, Lib.hid (fun j h => absurd h (by omega)), Below.refl _ _⟩
  case round =>
    obtain ⟨k, hk, rfl, hrel, hb⟩ := hrel
    by_cases hlt : k < xs.length
    · obtain ⟨g, off, rfl, hg, c0, c1, c2, c3, c4, c5⟩ := (H.out.below hb) k hlt
      have hcode : rtCode xs k = rtCode xs k := rfl
      conv at hcode => rhs; unfold rtCode
      rw [ordP_span (HT.out (k - 1)) (HT.out k)] at hcode
      have HC := Lib.hid hcode
      have HE : Hid (rtCode xs k ≠ 0 → rtFault xs = rtCode xs k) := Lib.hid (rtFault_at hl hlt hrel.out)
      obtain ⟨uh, ul, hn2⟩ := HT.out k
      have hsz := hb.size
      clear hcode
      generalize xs.getD k noRt = x at *
      obtain ⟨xs_, xh, xl, xb, xn, xw⟩ := x
      simp only at c0 c1 c2 c3 c4 c5 uh ul hn2
      have s1 : xn.size ≤ maxLen := by unfold maxLen; omega
      have hbx := heap_alloc_new wr (.cells #[.bool xs_, .int .u64 xh, .int .u64 xl, .int .i64 xb, .string xn, .int .i64 xw] 55)
      have hlw : wr.heap.size < (wr.alloc (.cells #[.bool xs_, .int .u64 xh, .int .u64 xl, .int .i64 xb, .string xn, .int .i64 xw] 55)).heap.size := by simp
      have HBW := Lib.hid (hb.alloc hb.size (.cells #[.bool xs_, .int .u64 xh, .int .u64 xl, .int .i64 xb, .string xn, .int .i64 xw] 55))
      obtain ⟨⟨x0, x1, x2, x3, x4, x5⟩, -⟩ := res6 hbx
      clear hbx hb
      have HPF := checkPrefix_full xs_ xh xl xb (wr.alloc (.cells #[.bool xs_, .int .u64 xh, .int .u64 xl, .int .i64 xb, .string xn, .int .i64 xw] 55)) uh ul
      by_cases hpc : pfCode xs_ xh xl xb = 0
      rotate_left
      · have hcc : (pfCode xs_ xh xl xb != 0) = true := by simpa using hpc
        have HF : Hid (rtFault xs = pfCode xs_ xh xl xb) := Lib.hid (by
          have h5 : rtCode xs k = pfCode xs_ xh xl xb := (by rw [HC.out, if_pos hpc])
          rw [HE.out (by rw [h5]; exact hpc), h5])
        clear hpc
        go_wp2_with fail
        refine HPF.mono ?_
        rintro e w1 ⟨rfl, hb1⟩
        have HB1 := Lib.hid (HBW.out.trans (hb1.mono HBW.out.size))
        clear x0 x1 x2 x3 x4 x5 hb1 HPF HC HE
        generalize pfCode xs_ xh xl xb = pc at hcc HF ⊢
        go_wp2_with fail
        go_ret
        exact ⟨ret_eq HF.out.symm, HB1.out⟩
      have HPC := Lib.hid hpc
      rw [hpc] at HPF
      clear hpc
      go_wp2_with fail
      refine HPF.mono ?_
      rintro e w1 ⟨rfl, hb1⟩
      clear HPF
      have x0 : w1.cell? ⟨wr.heap.size, 0, none⟩ = some (.bool xs_) := (hb1.cell (p := ⟨wr.heap.size, 0, none⟩) (by first | (simp; done) | (simp; omega) | omega)).trans (by first | assumption | (go_simp; done))
      have x1 : w1.cell? ⟨wr.heap.size, 1, none⟩ = some (.int .u64 xh) := (hb1.cell (p := ⟨wr.heap.size, 1, none⟩) (by first | (simp; done) | (simp; omega) | omega)).trans (by first | assumption | (go_simp; done))
      have x2 : w1.cell? ⟨wr.heap.size, 2, none⟩ = some (.int .u64 xl) := (hb1.cell (p := ⟨wr.heap.size, 2, none⟩) (by first | (simp; done) | (simp; omega) | omega)).trans (by first | assumption | (go_simp; done))
      have x3 : w1.cell? ⟨wr.heap.size, 3, none⟩ = some (.int .i64 xb) := (hb1.cell (p := ⟨wr.heap.size, 3, none⟩) (by first | (simp; done) | (simp; omega) | omega)).trans (by first | assumption | (go_simp; done))
      have x4 : w1.cell? ⟨wr.heap.size, 4, none⟩ = some (.string xn) := (hb1.cell (p := ⟨wr.heap.size, 4, none⟩) (by first | (simp; done) | (simp; omega) | omega)).trans (by first | assumption | (go_simp; done))
      have x5 : w1.cell? ⟨wr.heap.size, 5, none⟩ = some (.int .i64 xw) := (hb1.cell (p := ⟨wr.heap.size, 5, none⟩) (by first | (simp; done) | (simp; omega) | omega)).trans (by first | assumption | (go_simp; done))
      have hlw : wr.heap.size < w1.heap.size := Nat.lt_of_lt_of_le hlw hb1.size
      have HBW := Lib.hid (HBW.out.trans (hb1.mono HBW.out.size))
      clear hb1
      cases ka : isKey xn
      · have HF : Hid (rtFault xs = 5) := Lib.hid (by
          have h5 : rtCode xs k = 5 := (by rw [HC.out, if_neg (by rw [HPC.out]; decide), if_pos ka])
          rw [HE.out (by rw [h5]; decide), h5])
        go_wp2_with fail
        refine (isKey_any xn _ s1).mono ?_
        rintro e w9 ⟨rfl, rfl⟩
        rw [ka]
        go_wp2_with fail
        go_ret
        exact ⟨ret_eq HF.out.symm, HBW.out⟩
      by_cases km : 0 ≤ xw ∧ xw ≤ 1000
      rotate_left
      · have hin : (decide (xw < (0 : Int)) || decide (1000 < xw)) = true := by simp; omega
        have HF : Hid (rtFault xs = 1) := Lib.hid (by
          have h5 : rtCode xs k = 1 := (by rw [HC.out, if_neg (by rw [HPC.out]; decide), if_neg (by rw [ka]; decide), if_pos km])
          rw [HE.out (by rw [h5]; decide), h5])
        clear km
        go_wp2_with fail
        refine (isKey_any xn _ s1).mono ?_
        rintro e w9 ⟨rfl, rfl⟩
        rw [ka]
        go_wp2_with fail
        refine (outside_any _ _ _ _).mono ?_
        rintro e w3 ⟨rfl, rfl⟩
        rw [hin]
        go_wp2_with fail
        go_ret
        exact ⟨ret_eq HF.out.symm, HBW.out⟩
      have hin : (decide (xw < (0 : Int)) || decide (1000 < xw)) = false := by simp; omega
      have KM := Lib.hid km
      clear km
      by_cases k0 : k = 0
      · have hd : decide (0 < k) = false := by simp; omega
        have HR : Hid (∀ j, j < k + 1 → rtCode xs j = 0) := Lib.hid (fun j hj => by
          by_cases e : j = k
          · rw [e, HC.out, if_neg (by rw [HPC.out]; decide), if_neg (by rw [ka]; decide), if_neg (fun h => h KM.out), if_neg (by omega)]
          · exact hrel.out j (by omega))
        clear k0 HC HE
        go_wp2_with fail
        refine (isKey_any xn _ s1).mono ?_
        rintro e w9 ⟨rfl, rfl⟩
        rw [ka]
        go_wp2_with fail
        refine (outside_any _ _ _ _).mono ?_
        rintro e w3 ⟨rfl, rfl⟩
        rw [hin]
        go_wp2_with fail
        go_quiet (fail)
        go_wp2_with fail
        go_roundw
        case rel => exact ⟨k + 1, by omega, by go_num, HR, ⟨HBW.out.os, HBW.out.tape, HBW.out.output, HBW.out.size, HBW.out.block⟩⟩
        case measure => simp [intOf]; omega
      · obtain ⟨g', off', e', hg', p0, p1, p2, p3, p4, p5⟩ := (H.out.below HBW.out) (k - 1) (by omega)
        injection e' with e'
        injection e' with e1 e2
        subst e1 e2
        have HK0 := Lib.hid k0
        have k0' : 0 < k := by omega
        have hk1 : 0 ≤ (k : Int) - 1 := by omega
        have hk2 : (k : Int) - 1 < (xs.length : Int) := by omega
        clear k0
        generalize xs.getD (k - 1) noRt = p at *
        obtain ⟨ps, ph, pl, pb, pn, pw⟩ := p
        simp only at p0 p1 p2 p3 p4 p5
        have HC' := HC.out
        unfold spanP at HC'
        simp only at HC'
        have HC2 := Lib.hid HC'
        have hgw : g < w1.heap.size := by have := HBW.out.size; omega
        clear HC HC'
        go_wp2_with fail
        refine (isKey_any xn _ s1).mono ?_
        rintro e w9 ⟨rfl, rfl⟩
        rw [ka]
        go_wp2_with fail
        refine (outside_any _ _ _ _).mono ?_
        rintro e w3 ⟨rfl, rfl⟩
        rw [hin]
        have hd : decide (0 < k) = true := by simp; omega
        go_wp2_with fail
        have s1' : (1 : Int) ≤ (k : Int) := by omega
        have s0 : IntKind.i64.wrap ((k : Int) - 1) = (k : Int) - 1 := IntWalk.i64_in _ (by omega)
        have s2' : ((k : Int) - 1).toNat = k - 1 := by omega
        go_region_held3 (fun w' => w'.cell? ⟨g, off + (k - 1) * 6, none⟩ = some (.bool ps) ∧ w'.cell? ⟨g, off + (k - 1) * 6 + 1, none⟩ = some (.int .u64 ph) ∧ w'.cell? ⟨g, off + (k - 1) * 6 + 2, none⟩ = some (.int .u64 pl) ∧ w'.cell? ⟨g, off + (k - 1) * 6 + 3, none⟩ = some (.int .i64 pb) ∧ w'.cell? ⟨g, off + (k - 1) * 6 + 4, none⟩ = some (.string pn) ∧ w'.cell? ⟨g, off + (k - 1) * 6 + 5, none⟩ = some (.int .i64 pw) ∧ w'.cell? ⟨wr.heap.size, 0, none⟩ = some (.bool xs_) ∧ w'.cell? ⟨wr.heap.size, 1, none⟩ = some (.int .u64 xh) ∧ w'.cell? ⟨wr.heap.size, 2, none⟩ = some (.int .u64 xl) ∧ w'.cell? ⟨wr.heap.size, 3, none⟩ = some (.int .i64 xb) ∧ w'.cell? ⟨wr.heap.size, 4, none⟩ = some (.string xn) ∧ w'.cell? ⟨wr.heap.size, 5, none⟩ = some (.int .i64 xw))
          (first | exact ⟨p0, p1, p2, p3, p4, p5, x0, x1, x2, x3, x4, x5⟩ | ((repeat' apply And.intro) <;> (first | (go_simp; done) | with_reducible assumption)))
          (first
            | (go_at_call 84; refine (compareRouters_any _ _ _ _ _ _ _ _ _ _ _ _ _).mono ?_; rintro e W1 ⟨rfl, hb1⟩; have p0 : W1.cell? ⟨g, off + (k - 1) * 6, none⟩ = some (.bool ps) := (hb1.cell (p := ⟨g, off + (k - 1) * 6, none⟩) (by first | (simp; done) | (simp; omega) | omega)).trans (by first | assumption | (go_simp; done)); have p1 : W1.cell? ⟨g, off + (k - 1) * 6 + 1, none⟩ = some (.int .u64 ph) := (hb1.cell (p := ⟨g, off + (k - 1) * 6 + 1, none⟩) (by first | (simp; done) | (simp; omega) | omega)).trans (by first | assumption | (go_simp; done)); have p2 : W1.cell? ⟨g, off + (k - 1) * 6 + 2, none⟩ = some (.int .u64 pl) := (hb1.cell (p := ⟨g, off + (k - 1) * 6 + 2, none⟩) (by first | (simp; done) | (simp; omega) | omega)).trans (by first | assumption | (go_simp; done)); have p3 : W1.cell? ⟨g, off + (k - 1) * 6 + 3, none⟩ = some (.int .i64 pb) := (hb1.cell (p := ⟨g, off + (k - 1) * 6 + 3, none⟩) (by first | (simp; done) | (simp; omega) | omega)).trans (by first | assumption | (go_simp; done)); have p4 : W1.cell? ⟨g, off + (k - 1) * 6 + 4, none⟩ = some (.string pn) := (hb1.cell (p := ⟨g, off + (k - 1) * 6 + 4, none⟩) (by first | (simp; done) | (simp; omega) | omega)).trans (by first | assumption | (go_simp; done)); have p5 : W1.cell? ⟨g, off + (k - 1) * 6 + 5, none⟩ = some (.int .i64 pw) := (hb1.cell (p := ⟨g, off + (k - 1) * 6 + 5, none⟩) (by first | (simp; done) | (simp; omega) | omega)).trans (by first | assumption | (go_simp; done)); have x0 : W1.cell? ⟨wr.heap.size, 0, none⟩ = some (.bool xs_) := (hb1.cell (p := ⟨wr.heap.size, 0, none⟩) (by first | (simp; done) | (simp; omega) | omega)).trans (by first | assumption | (go_simp; done)); have x1 : W1.cell? ⟨wr.heap.size, 1, none⟩ = some (.int .u64 xh) := (hb1.cell (p := ⟨wr.heap.size, 1, none⟩) (by first | (simp; done) | (simp; omega) | omega)).trans (by first | assumption | (go_simp; done)); have x2 : W1.cell? ⟨wr.heap.size, 2, none⟩ = some (.int .u64 xl) := (hb1.cell (p := ⟨wr.heap.size, 2, none⟩) (by first | (simp; done) | (simp; omega) | omega)).trans (by first | assumption | (go_simp; done)); have x3 : W1.cell? ⟨wr.heap.size, 3, none⟩ = some (.int .i64 xb) := (hb1.cell (p := ⟨wr.heap.size, 3, none⟩) (by first | (simp; done) | (simp; omega) | omega)).trans (by first | assumption | (go_simp; done)); have x4 : W1.cell? ⟨wr.heap.size, 4, none⟩ = some (.string xn) := (hb1.cell (p := ⟨wr.heap.size, 4, none⟩) (by first | (simp; done) | (simp; omega) | omega)).trans (by first | assumption | (go_simp; done)); have x5 : W1.cell? ⟨wr.heap.size, 5, none⟩ = some (.int .i64 xw) := (hb1.cell (p := ⟨wr.heap.size, 5, none⟩) (by first | (simp; done) | (simp; omega) | omega)).trans (by first | assumption | (go_simp; done)); have hl0 : wr.heap.size < W1.heap.size := (by have := hb1.size; (try simp at this); omega); have hl1 : g < W1.heap.size := (by have := hb1.size; (try simp at this); omega); have HBW : Hid (Below w.heap.size w W1) := (by first | exact Lib.hid (HBW.out.drew.trans (hb1.mono (show w.heap.size ≤ w1.heap.size by omega))) | exact Lib.hid (HBW.out.trans (hb1.mono (by omega))))))
        clear s1' s0 s2' hd k0' hk1 hk2
        have HW := HBW
        by_cases ho : 0 ≤ orOf [orOf [spanC ps ph pl xs_ xh xl, cmpI pb xb], Lib.compareBytes pn.data.toList xn.data.toList]
        · have HF : Hid (rtFault xs = 7) := Lib.hid (by
            have h5 : rtCode xs k = 7 := (by rw [HC2.out, if_neg (by rw [HPC.out]; decide), if_neg (by rw [ka]; decide), if_neg (fun h => h KM.out), if_pos ⟨by have := HK0.out; omega, ho⟩])
            rw [HE.out (by rw [h5]; decide), h5])
          clear HC2 HE
          generalize orOf [orOf [spanC ps ph pl xs_ xh xl, cmpI pb xb], Lib.compareBytes pn.data.toList xn.data.toList] = o at *
          go_wp2_with fail
          go_ret
          exact ⟨ret_eq HF.out.symm, HW.out⟩
        · have HR : Hid (∀ j, j < k + 1 → rtCode xs j = 0) := Lib.hid (fun j hj => by
            by_cases e : j = k
            · rw [e, HC2.out, if_neg (by rw [HPC.out]; decide), if_neg (by rw [ka]; decide), if_neg (fun h => h KM.out), if_neg (fun h => ho h.2)]
            · exact hrel.out j (by omega))
          clear HC2 HE
          generalize orOf [orOf [spanC ps ph pl xs_ xh xl, cmpI pb xb], Lib.compareBytes pn.data.toList xn.data.toList] = o at *
          go_wp2_with fail
          go_roundw
          case rel => exact ⟨k + 1, by omega, by go_num, HR, HW.out⟩
          case measure => simp [intOf]; omega
    · have : k = xs.length := by omega
      subst this
      have HF : Hid (rtFault xs = 0) := Lib.hid (rtFault_none hl hrel.out)
      clear hrel
      go_wp2_with fail
      go_ret
      exact ⟨ret_eq HF.out.symm, hb⟩
end Go.Proofs.YtkbbmlkgaooaiaaGreatDoor
