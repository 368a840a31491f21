/- The order of prefixes in the program and in the reference, over a lanekeep2 seat. -/
import Derived.Test.YtpbcbgoenoolfaaGreatDoorSpA
import Derived.Test.YtpbcbgoenoolfaaGreatDoorWdS
import Derived.Test.YtpbcbgoenoolfaaGreatDoorDrS
import Derived.Test.YtpbcbgoenoolfaaGreatDoorTbA
namespace Go.Proofs.YtpbcbgoenoolfaaGreatDoor
open Go.RowKit Go.Hw
theorem sgn_cmp (a b : Int) : sgn (a - b) = cmpI a b := by
  unfold sgn cmpI
  by_cases h1 : a < b
  · rw [if_pos (by omega), if_pos h1]
  · rw [if_neg (by omega), if_neg h1]
    by_cases h2 : b < a
    · rw [if_pos (by omega), if_pos h2]
    · rw [if_neg (by omega), if_neg h2]
theorem cmp_four {n k : Int} (h : U64 n) (h' : U64 k) (r : Int) :
    (if dg n 3 = dg k 3 then if dg n 2 = dg k 2 then if dg n 1 = dg k 1 then if dg n 0 = dg k 0 then r else cmpI (dg n 0) (dg k 0) else cmpI (dg n 1) (dg k 1) else cmpI (dg n 2) (dg k 2) else cmpI (dg n 3) (dg k 3)) = if n = k then r else cmpI n k := by
  have h1 := num_dg h
  have h2 := num_dg h'
  have a0 := dg_bd n 0
  have a1 := dg_bd n 1
  have a2 := dg_bd n 2
  have a3 := dg_bd n 3
  have b0 := dg_bd k 0
  have b1 := dg_bd k 1
  have b2 := dg_bd k 2
  have b3 := dg_bd k 3
  generalize dg n 0 = n0 at *
  generalize dg n 1 = n1 at *
  generalize dg n 2 = n2 at *
  generalize dg n 3 = n3 at *
  generalize dg k 0 = k0 at *
  generalize dg k 1 = k1 at *
  generalize dg k 2 = k2 at *
  generalize dg k 3 = k3 at *
  have hc : ∀ a b : Int, a ≠ b → n ≠ k → ((a < b → n < k) ∧ (b < a → k < n)) → cmpI a b = cmpI n k := by
    intro a b hab hnk hh
    unfold cmpI
    by_cases c1 : a < b
    · rw [if_pos c1, if_pos (hh.1 c1)]
    · rw [if_neg c1, if_pos (show b < a by omega), if_neg (by have := hh.2 (by omega); omega), if_pos (hh.2 (by omega))]
  by_cases e3 : n3 = k3
  · rw [if_pos e3]
    by_cases e2 : n2 = k2
    · rw [if_pos e2]
      by_cases e1 : n1 = k1
      · rw [if_pos e1]
        by_cases e0 : n0 = k0
        · rw [if_pos e0, if_pos (by omega)]
        · rw [if_neg e0, if_neg (by omega)]
          exact hc _ _ e0 (by omega) ⟨fun _ => by omega, fun _ => by omega⟩
      · rw [if_neg e1, if_neg (by omega)]
        exact hc _ _ e1 (by omega) ⟨fun _ => by omega, fun _ => by omega⟩
    · rw [if_neg e2, if_neg (by omega)]
      exact hc _ _ e2 (by omega) ⟨fun _ => by omega, fun _ => by omega⟩
  · rw [if_neg e3, if_neg (by omega)]
    exact hc _ _ e3 (by omega) ⟨fun _ => by omega, fun _ => by omega⟩
theorem cmpI_same (a : Int) : cmpI a a = 0 := by unfold cmpI; simp
theorem cmpI_ne {a b : Int} (h : a ≠ b) : cmpI a b ≠ 0 := by
  unfold cmpI
  by_cases h1 : a < b
  · rw [if_pos h1]; decide
  · rw [if_neg h1, if_pos (by omega)]; decide
/-- The order by digits is the order by numbers. -/
theorem cmp_span {s s' : Bool} {h l h' l' : Int} (uh : U64 h) (ul : U64 l) (uh' : U64 h') (ul' : U64 l') : cmpN (wd s h l) (wd s' h' l') 9 = spanC s h l s' h' l' := by
  have e8 : wd s h l 8 = if s then 1 else 0 := rfl
  have e8' : wd s' h' l' 8 = if s' then 1 else 0 := rfl
  by_cases hs : s = s'
  · subst hs
    have hhi := cmp_four uh uh' (cmpN (wd s h l) (wd s h' l') 4)
    have hlo := cmp_four ul ul' 0
    unfold spanC
    rw [if_pos rfl]
    have h9 : cmpN (wd s h l) (wd s h' l') 9 = cmpN (wd s h l) (wd s h' l') 8 := by
      show (if wd s h l 8 = wd s h' l' 8 then _ else _) = _
      rw [if_pos (by rw [e8, e8'])]
    have h84 : cmpN (wd s h l) (wd s h' l') 8 = if h = h' then cmpN (wd s h l) (wd s h' l') 4 else cmpI h h' := by
      rw [← hhi]
      simp only [cmpN, sgn_cmp]
      rfl
    have h40 : cmpN (wd s h l) (wd s h' l') 4 = if l = l' then 0 else cmpI l l' := by
      rw [← hlo]
      simp only [cmpN, sgn_cmp]
      rfl
    rw [h9, h84, h40]
    unfold orOf orOf orOf
    by_cases c1 : h = h'
    · subst c1
      rw [if_pos rfl, if_pos (cmpI_same h)]
      by_cases c2 : l = l'
      · subst c2
        rw [if_pos rfl, if_pos (cmpI_same l)]
      · rw [if_neg c2, if_neg (cmpI_ne c2)]
    · rw [if_neg c1, if_neg (cmpI_ne c1)]
  · unfold spanC
    rw [if_neg hs]
    show (if wd s h l 8 = wd s' h' l' 8 then _ else sgn (wd s h l 8 - wd s' h' l' 8)) = _
    rw [e8, e8']
    cases s <;> cases s' <;> simp at hs ⊢ <;> rfl
end Go.Proofs.YtpbcbgoenoolfaaGreatDoor

namespace Go.Proofs.YtpbcbgoenoolfaaGreatDoor
open Go.RowKit Go.Hw Go.Shelf
set_option maxRecDepth 100000 in
set_option maxHeartbeats 1000000 in
theorem comparePrefixes_any (s : Bool) (h l b : Int) (s' : Bool) (h' l' b' : Int) (w : World) :
    Calls Tryz.prog 41 #[.agg #[.bool s, .int .u64 h, .int .u64 l, .int .i64 b], .agg #[.bool s', .int .u64 h', .int .u64 l', .int .i64 b']] w fun e w' => e = .returned (.int .i64 (orOf [spanC s h l s' h' l', cmpI b b'])) ∧ Below w.heap.size w w' := by
  have b0 : ((w.alloc (pfBox s h l b)).alloc (pfBox s' h' l' b')).heap[w.heap.size]? = some (pfBox s h l b) := (heap_alloc_old _ _ (by simp)).trans (heap_alloc_new w _)
  have b1 : ((w.alloc (pfBox s h l b)).alloc (pfBox s' h' l' b')).heap[w.heap.size + 1]? = some (pfBox s' h' l' b') := by
    have := heap_alloc_new (w.alloc (pfBox s h l b)) (pfBox s' h' l' b')
    simp only [Re_size] at this
    exact this
  obtain ⟨⟨x0, x1, x2, x3⟩, -⟩ := res4 b0
  obtain ⟨⟨x4, x5, x6, x7⟩, -⟩ := res4 b1
  have HB := Lib.hid (((Below.refl w.heap.size w).alloc (Nat.le_refl _) (pfBox s h l b)).alloc (by simp) (pfBox s' h' l' b'))
  have hsz : w.heap.size + 2 ≤ ((w.alloc (pfBox s h l b)).alloc (pfBox s' h' l' b')).heap.size := by simp
  unfold pfBox at x0 x1 x2 x3 x4 x5 x6 x7 hsz
  clear b0 b1
  go_enter Tryz.func41, Tryz.ntmps41
  go_wp2_with fail
  generalize hW : World.alloc _ _ = W at x0 x1 x2 x3 x4 x5 x6 x7 hsz ⊢
  have HBW : Hid (Below w.heap.size w W) := Lib.hid (by rw [← hW]; exact HB.out)
  clear hW HB
  have hl0 : w.heap.size < W.heap.size := by omega
  have hl1 : w.heap.size + 1 < W.heap.size := by omega
  go_region_held3 (fun w' => w'.cell? ⟨w.heap.size, 0, none⟩ = some (.bool s) ∧ w'.cell? ⟨w.heap.size, 1, none⟩ = some (.int .u64 h) ∧ w'.cell? ⟨w.heap.size, 2, none⟩ = some (.int .u64 l) ∧ w'.cell? ⟨w.heap.size, 3, none⟩ = some (.int .i64 b) ∧ w'.cell? ⟨w.heap.size + 1, 0, none⟩ = some (.bool s') ∧ w'.cell? ⟨w.heap.size + 1, 1, none⟩ = some (.int .u64 h') ∧ w'.cell? ⟨w.heap.size + 1, 2, none⟩ = some (.int .u64 l') ∧ w'.cell? ⟨w.heap.size + 1, 3, none⟩ = some (.int .i64 b'))
    (first | exact ⟨x0, x1, x2, x3, x4, x5, x6, x7⟩ | ((repeat' apply And.intro) <;> (first | (go_simp; done) | with_reducible assumption)))
    (first
      | (go_at_call 47; refine (spanCompare_any _ _ _ _ _ _ _).mono ?_; rintro e W1 ⟨rfl, hb1⟩; have x0 : W1.cell? ⟨w.heap.size, 0, none⟩ = some (.bool s) := (hb1.cell (p := ⟨w.heap.size, 0, none⟩) (by first | (simp; done) | (simp; omega) | omega)).trans (by first | assumption | (go_simp; done)); have x1 : W1.cell? ⟨w.heap.size, 1, none⟩ = some (.int .u64 h) := (hb1.cell (p := ⟨w.heap.size, 1, none⟩) (by first | (simp; done) | (simp; omega) | omega)).trans (by first | assumption | (go_simp; done)); have x2 : W1.cell? ⟨w.heap.size, 2, none⟩ = some (.int .u64 l) := (hb1.cell (p := ⟨w.heap.size, 2, none⟩) (by first | (simp; done) | (simp; omega) | omega)).trans (by first | assumption | (go_simp; done)); have x3 : W1.cell? ⟨w.heap.size, 3, none⟩ = some (.int .i64 b) := (hb1.cell (p := ⟨w.heap.size, 3, none⟩) (by first | (simp; done) | (simp; omega) | omega)).trans (by first | assumption | (go_simp; done)); have x4 : W1.cell? ⟨w.heap.size + 1, 0, none⟩ = some (.bool s') := (hb1.cell (p := ⟨w.heap.size + 1, 0, none⟩) (by first | (simp; done) | (simp; omega) | omega)).trans (by first | assumption | (go_simp; done)); have x5 : W1.cell? ⟨w.heap.size + 1, 1, none⟩ = some (.int .u64 h') := (hb1.cell (p := ⟨w.heap.size + 1, 1, none⟩) (by first | (simp; done) | (simp; omega) | omega)).trans (by first | assumption | (go_simp; done)); have x6 : W1.cell? ⟨w.heap.size + 1, 2, none⟩ = some (.int .u64 l') := (hb1.cell (p := ⟨w.heap.size + 1, 2, none⟩) (by first | (simp; done) | (simp; omega) | omega)).trans (by first | assumption | (go_simp; done)); have x7 : W1.cell? ⟨w.heap.size + 1, 3, none⟩ = some (.int .i64 b') := (hb1.cell (p := ⟨w.heap.size + 1, 3, none⟩) (by first | (simp; done) | (simp; omega) | omega)).trans (by first | assumption | (go_simp; done)); have hsz : w.heap.size + 2 ≤ W1.heap.size := (by have := hb1.size; (try simp at this); omega); have hl0 : w.heap.size < W1.heap.size := (by omega); have hl1 : w.heap.size + 1 < W1.heap.size := (by omega); have HBW : Hid (Below w.heap.size w W1) := (by first | exact Lib.hid (HBW.out.trans (hb1.mono (by omega))) | exact Lib.hid (HBW.out.drew.trans (hb1.mono (show w.heap.size ≤ W.heap.size by omega)))))
      | (go_at_call 73; refine (cmpI_any _ _ _).mono ?_; rintro e W2 ⟨rfl, rfl⟩)
      | (go_at_call 72; refine (or_any W1.heap.size [spanC s h l s' h' l', cmpI b b'] _ (by exact heap_alloc_new W1 _) 2 2 rfl (by simp)).mono ?_; rintro e W2 ⟨rfl, rfl⟩))
  go_wp2_with fail
  go_ret
  exact ⟨rfl, HBW.out.alloc HBW.out.size _⟩
end Go.Proofs.YtpbcbgoenoolfaaGreatDoor
