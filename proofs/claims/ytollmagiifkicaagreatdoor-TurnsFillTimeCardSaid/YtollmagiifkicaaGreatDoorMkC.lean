/- The order of prefixes in the program: cmp.Compare at uint64, span.Compare, ComparePrefixes, compareRouters. -/
import Derived.Test.YtollmagiifkicaaGreatDoorMkA
import Derived.Test.YtollmagiifkicaaGreatDoorRfA
namespace Go.Proofs.YtollmagiifkicaaGreatDoor
open Go.RowKit Go.Hw Go.Shelf

theorem nan_u64 (a : Int) (w : World) : Calls Tryz.prog 174 #[.int .u64 a] w fun e w' => e = .returned (.bool false) ∧ w = w' := by
  have h : (a != a) = false := by simp
  go_enter Tryz.func174, Tryz.ntmps174
  go_wp2_with fail
  go_ret
  exact ⟨ret_bool (by simp), rfl⟩
theorem cmpU_any (a b : Int) (w : World) : Calls Tryz.prog 167 #[.int .u64 a, .int .u64 b] w fun e w' => e = .returned (.int .i64 (cmpI a b)) ∧ w = w' := by
  by_cases h1 : a < b
  · have HF : Hid (cmpI a b = -1) := Lib.hid (by unfold cmpI; rw [if_pos h1])
    go_enter Tryz.func167, Tryz.ntmps167
    go_wp2_with (go_at_call 174; refine (nan_u64 _ _).mono ?_; rintro e w' ⟨rfl, rfl⟩)
    go_ret
    exact ⟨ret_eq HF.out.symm, rfl⟩
  · by_cases h2 : b < a
    · have HF : Hid (cmpI a b = 1) := Lib.hid (by unfold cmpI; rw [if_neg h1, if_pos h2])
      go_enter Tryz.func167, Tryz.ntmps167
      go_wp2_with (go_at_call 174; refine (nan_u64 _ _).mono ?_; rintro e w' ⟨rfl, rfl⟩)
      go_ret
      exact ⟨ret_eq HF.out.symm, rfl⟩
    · have HF : Hid (cmpI a b = 0) := Lib.hid (by unfold cmpI; rw [if_neg h1, if_neg h2])
      go_enter Tryz.func167, Tryz.ntmps167
      go_wp2_with (go_at_call 174; refine (nan_u64 _ _).mono ?_; rintro e w' ⟨rfl, rfl⟩)
      go_ret
      exact ⟨ret_eq HF.out.symm, rfl⟩

set_option maxRecDepth 100000 in
set_option maxHeartbeats 1000000 in
theorem spanCompare_any (s : Bool) (h l : Int) (s' : Bool) (h' l' : Int) (w : World) :
    Calls Tryz.prog 159 #[.agg #[.bool s, .int .u64 h, .int .u64 l], .agg #[.bool s', .int .u64 h', .int .u64 l']] w fun e w' => e = .returned (.int .i64 (spanC s h l s' h' l')) ∧ Below w.heap.size w w' := by
  have b0 : ((w.alloc (addrBox s h l)).alloc (addrBox s' h' l')).heap[w.heap.size]? = some (addrBox s h l) := (heap_alloc_old _ _ (by simp)).trans (heap_alloc_new w _)
  have b1 : ((w.alloc (addrBox s h l)).alloc (addrBox s' h' l')).heap[w.heap.size + 1]? = some (addrBox s' h' l') := by
    have := heap_alloc_new (w.alloc (addrBox s h l)) (addrBox s' h' l')
    simp only [Re_size] at this
    exact this
  obtain ⟨x0, x1, x2, -⟩ := res3 b0
  obtain ⟨x3, x4, x5, -⟩ := res3 b1
  have HB := Lib.hid (((Below.refl w.heap.size w).alloc (Nat.le_refl _) (addrBox s h l)).alloc (by simp) (addrBox s' h' l'))
  have hsz : w.heap.size + 2 ≤ ((w.alloc (addrBox s h l)).alloc (addrBox s' h' l')).heap.size := by simp
  unfold addrBox at x0 x1 x2 x3 x4 x5 hsz
  clear b0 b1
  by_cases hs : s = s'
  · subst hs
    have HF : Hid (spanC s h l s h' l' = orOf [cmpI h h', cmpI l l']) := Lib.hid (by unfold spanC; rw [if_pos rfl])
    have e1 : (s != s) = false := by simp
    go_enter Tryz.func159, Tryz.ntmps159
    go_wp2_with fail
    generalize hW : World.alloc _ _ = W at x0 x1 x2 x3 x4 x5 hsz ⊢
    have HBW : Hid (Below w.heap.size w W) := Lib.hid (by rw [← hW]; exact HB.out)
    clear hW HB
    have hl0 : w.heap.size < W.heap.size := by omega
    have hl1 : w.heap.size + 1 < W.heap.size := by omega
    go_region_held3 (fun w' => w'.cell? ⟨w.heap.size, 0, none⟩ = some (.bool s) ∧ w'.cell? ⟨w.heap.size, 1, none⟩ = some (.int .u64 h) ∧ w'.cell? ⟨w.heap.size, 2, none⟩ = some (.int .u64 l) ∧ w'.cell? ⟨w.heap.size + 1, 0, none⟩ = some (.bool s) ∧ w'.cell? ⟨w.heap.size + 1, 1, none⟩ = some (.int .u64 h') ∧ w'.cell? ⟨w.heap.size + 1, 2, none⟩ = some (.int .u64 l'))
      (first | exact ⟨x0, x1, x2, x3, x4, x5⟩ | ((repeat' apply And.intro) <;> (first | (go_simp; done) | with_reducible assumption)))
      (first
        | (go_at_call 167; refine (cmpU_any _ _ _).mono ?_; rintro e W2 ⟨rfl, rfl⟩)
        | (go_at_call 40; refine (or_any W.heap.size [cmpI h h', cmpI l l'] _ (by exact heap_alloc_new W _) 2 2 rfl (by simp)).mono ?_; rintro e W2 ⟨rfl, rfl⟩))
    go_wp2_with fail
    go_ret
    exact ⟨ret_eq HF.out.symm, (HBW.out.alloc HBW.out.size _).drew⟩
  · cases s <;> cases s'
    · exact absurd rfl hs
    · have HF : Hid (spanC false h l true h' l' = -1) := Lib.hid rfl
      clear hs
      go_enter Tryz.func159, Tryz.ntmps159
      go_wp2_with fail
      go_ret
      exact ⟨ret_eq HF.out.symm, HB.out⟩
    · have HF : Hid (spanC true h l false h' l' = 1) := Lib.hid rfl
      clear hs
      go_enter Tryz.func159, Tryz.ntmps159
      go_wp2_with fail
      go_ret
      exact ⟨ret_eq HF.out.symm, HB.out⟩
    · exact absurd rfl hs

set_option maxRecDepth 100000 in
set_option maxHeartbeats 1000000 in
theorem comparePrefixes_any (s : Bool) (h l b : Int) (s' : Bool) (h' l' b' : Int) (w : World) :
    Calls Tryz.prog 145 #[.agg #[.bool s, .int .u64 h, .int .u64 l, .int .i64 b], .agg #[.bool s', .int .u64 h', .int .u64 l', .int .i64 b']] w fun e w' => e = .returned (.int .i64 (orOf [spanC s h l s' h' l', cmpI b b'])) ∧ Below w.heap.size w w' := by
  have b0 : ((w.alloc (pfBox s h l b)).alloc (pfBox s' h' l' b')).heap[w.heap.size]? = some (pfBox s h l b) := (heap_alloc_old _ _ (by simp)).trans (heap_alloc_new w _)
  have b1 : ((w.alloc (pfBox s h l b)).alloc (pfBox s' h' l' b')).heap[w.heap.size + 1]? = some (pfBox s' h' l' b') := by
    have := heap_alloc_new (w.alloc (pfBox s h l b)) (pfBox s' h' l' b')
    simp only [Re_size] at this
    exact this
  obtain ⟨⟨x0, x1, x2, x3⟩, -⟩ := res4 b0
  obtain ⟨⟨x4, x5, x6, x7⟩, -⟩ := res4 b1
  have HB := Lib.hid (((Below.refl w.heap.size w).alloc (Nat.le_refl _) (pfBox s h l b)).alloc (by simp) (pfBox s' h' l' b'))
  have hsz : w.heap.size + 2 ≤ ((w.alloc (pfBox s h l b)).alloc (pfBox s' h' l' b')).heap.size := by simp
  unfold pfBox at x0 x1 x2 x3 x4 x5 x6 x7 hsz
  clear b0 b1
  go_enter Tryz.func145, Tryz.ntmps145
  go_wp2_with fail
  generalize hW : World.alloc _ _ = W at x0 x1 x2 x3 x4 x5 x6 x7 hsz ⊢
  have HBW : Hid (Below w.heap.size w W) := Lib.hid (by rw [← hW]; exact HB.out)
  clear hW HB
  have hl0 : w.heap.size < W.heap.size := by omega
  have hl1 : w.heap.size + 1 < W.heap.size := by omega
  go_region_held3 (fun w' => w'.cell? ⟨w.heap.size, 0, none⟩ = some (.bool s) ∧ w'.cell? ⟨w.heap.size, 1, none⟩ = some (.int .u64 h) ∧ w'.cell? ⟨w.heap.size, 2, none⟩ = some (.int .u64 l) ∧ w'.cell? ⟨w.heap.size, 3, none⟩ = some (.int .i64 b) ∧ w'.cell? ⟨w.heap.size + 1, 0, none⟩ = some (.bool s') ∧ w'.cell? ⟨w.heap.size + 1, 1, none⟩ = some (.int .u64 h') ∧ w'.cell? ⟨w.heap.size + 1, 2, none⟩ = some (.int .u64 l') ∧ w'.cell? ⟨w.heap.size + 1, 3, none⟩ = some (.int .i64 b'))
    (first | exact ⟨x0, x1, x2, x3, x4, x5, x6, x7⟩ | ((repeat' apply And.intro) <;> (first | (go_simp; done) | with_reducible assumption)))
    (first
      | (go_at_call 159; refine (spanCompare_any _ _ _ _ _ _ _).mono ?_; rintro e W1 ⟨rfl, hb1⟩; have x0 : W1.cell? ⟨w.heap.size, 0, none⟩ = some (.bool s) := (hb1.cell (p := ⟨w.heap.size, 0, none⟩) (by first | (simp; done) | (simp; omega) | omega)).trans (by first | assumption | (go_simp; done)); have x1 : W1.cell? ⟨w.heap.size, 1, none⟩ = some (.int .u64 h) := (hb1.cell (p := ⟨w.heap.size, 1, none⟩) (by first | (simp; done) | (simp; omega) | omega)).trans (by first | assumption | (go_simp; done)); have x2 : W1.cell? ⟨w.heap.size, 2, none⟩ = some (.int .u64 l) := (hb1.cell (p := ⟨w.heap.size, 2, none⟩) (by first | (simp; done) | (simp; omega) | omega)).trans (by first | assumption | (go_simp; done)); have x3 : W1.cell? ⟨w.heap.size, 3, none⟩ = some (.int .i64 b) := (hb1.cell (p := ⟨w.heap.size, 3, none⟩) (by first | (simp; done) | (simp; omega) | omega)).trans (by first | assumption | (go_simp; done)); have x4 : W1.cell? ⟨w.heap.size + 1, 0, none⟩ = some (.bool s') := (hb1.cell (p := ⟨w.heap.size + 1, 0, none⟩) (by first | (simp; done) | (simp; omega) | omega)).trans (by first | assumption | (go_simp; done)); have x5 : W1.cell? ⟨w.heap.size + 1, 1, none⟩ = some (.int .u64 h') := (hb1.cell (p := ⟨w.heap.size + 1, 1, none⟩) (by first | (simp; done) | (simp; omega) | omega)).trans (by first | assumption | (go_simp; done)); have x6 : W1.cell? ⟨w.heap.size + 1, 2, none⟩ = some (.int .u64 l') := (hb1.cell (p := ⟨w.heap.size + 1, 2, none⟩) (by first | (simp; done) | (simp; omega) | omega)).trans (by first | assumption | (go_simp; done)); have x7 : W1.cell? ⟨w.heap.size + 1, 3, none⟩ = some (.int .i64 b') := (hb1.cell (p := ⟨w.heap.size + 1, 3, none⟩) (by first | (simp; done) | (simp; omega) | omega)).trans (by first | assumption | (go_simp; done)); have hsz : w.heap.size + 2 ≤ W1.heap.size := (by have := hb1.size; (try simp at this); omega); have hl0 : w.heap.size < W1.heap.size := (by omega); have hl1 : w.heap.size + 1 < W1.heap.size := (by omega); have HBW : Hid (Below w.heap.size w W1) := (by first | exact Lib.hid (HBW.out.trans (hb1.mono (by omega))) | exact Lib.hid (HBW.out.drew.trans (hb1.mono (show w.heap.size ≤ W.heap.size by omega)))))
      | (go_at_call 44; refine (cmpI_any _ _ _).mono ?_; rintro e W2 ⟨rfl, rfl⟩)
      | (go_at_call 40; refine (or_any W1.heap.size [spanC s h l s' h' l', cmpI b b'] _ (by exact heap_alloc_new W1 _) 2 2 rfl (by simp)).mono ?_; rintro e W2 ⟨rfl, rfl⟩))
  go_wp2_with fail
  go_ret
  exact ⟨rfl, HBW.out.alloc HBW.out.size _⟩

def rtBox (s : Bool) (h l b : Int) (n : ByteArray) (k : Int) : Obj := .cells #[.bool s, .int .u64 h, .int .u64 l, .int .i64 b, .string n, .int .i64 k] 41 (0, 0)
set_option maxRecDepth 100000 in
set_option maxHeartbeats 1000000 in
theorem compareRouters_any (s : Bool) (h l b : Int) (n : ByteArray) (k : Int) (s' : Bool) (h' l' b' : Int) (n' : ByteArray) (k' : Int) (w : World) :
    Calls Tryz.prog 125 #[.agg #[.bool s, .int .u64 h, .int .u64 l, .int .i64 b, .string n, .int .i64 k], .agg #[.bool s', .int .u64 h', .int .u64 l', .int .i64 b', .string n', .int .i64 k']] w fun e w' =>
      e = .returned (.int .i64 (orOf [orOf [spanC s h l s' h' l', cmpI b b'], Lib.compareBytes n.data.toList n'.data.toList])) ∧ Below w.heap.size w w' := by
  have b0 : ((w.alloc (rtBox s h l b n k)).alloc (rtBox s' h' l' b' n' k')).heap[w.heap.size]? = some (rtBox s h l b n k) := (heap_alloc_old _ _ (by simp)).trans (heap_alloc_new w _)
  have b1 : ((w.alloc (rtBox s h l b n k)).alloc (rtBox s' h' l' b' n' k')).heap[w.heap.size + 1]? = some (rtBox s' h' l' b' n' k') := by
    have := heap_alloc_new (w.alloc (rtBox s h l b n k)) (rtBox s' h' l' b' n' k')
    simp only [Re_size] at this
    exact this
  obtain ⟨⟨x0, x1, x2, x3, x4, -⟩, -⟩ := res6 b0
  obtain ⟨⟨x5, x6, x7, x8, x9, -⟩, -⟩ := res6 b1
  have HB := Lib.hid (((Below.refl w.heap.size w).alloc (Nat.le_refl _) (rtBox s h l b n k)).alloc (by simp) (rtBox s' h' l' b' n' k'))
  have hsz : w.heap.size + 2 ≤ ((w.alloc (rtBox s h l b n k)).alloc (rtBox s' h' l' b' n' k')).heap.size := by simp
  unfold rtBox at x0 x1 x2 x3 x4 x5 x6 x7 x8 x9 hsz
  clear b0 b1
  go_enter Tryz.func125, Tryz.ntmps125
  go_wp2_with fail
  generalize hW : World.alloc _ _ = W at x0 x1 x2 x3 x4 x5 x6 x7 x8 x9 hsz ⊢
  have HBW : Hid (Below w.heap.size w W) := Lib.hid (by rw [← hW]; exact HB.out)
  clear hW HB
  have hl0 : w.heap.size < W.heap.size := by omega
  have hl1 : w.heap.size + 1 < W.heap.size := by omega
  go_region_held3 (fun w' => w'.cell? ⟨w.heap.size, 0, none⟩ = some (.bool s) ∧ w'.cell? ⟨w.heap.size, 1, none⟩ = some (.int .u64 h) ∧ w'.cell? ⟨w.heap.size, 2, none⟩ = some (.int .u64 l) ∧ w'.cell? ⟨w.heap.size, 3, none⟩ = some (.int .i64 b) ∧ w'.cell? ⟨w.heap.size, 4, none⟩ = some (.string n) ∧ w'.cell? ⟨w.heap.size + 1, 0, none⟩ = some (.bool s') ∧ w'.cell? ⟨w.heap.size + 1, 1, none⟩ = some (.int .u64 h') ∧ w'.cell? ⟨w.heap.size + 1, 2, none⟩ = some (.int .u64 l') ∧ w'.cell? ⟨w.heap.size + 1, 3, none⟩ = some (.int .i64 b') ∧ w'.cell? ⟨w.heap.size + 1, 4, none⟩ = some (.string n'))
    (first | exact ⟨x0, x1, x2, x3, x4, x5, x6, x7, x8, x9⟩ | ((repeat' apply And.intro) <;> (first | (go_simp; done) | with_reducible assumption)))
    (first
      | (go_at_call 145; refine (comparePrefixes_any _ _ _ _ _ _ _ _ _).mono ?_; rintro e W1 ⟨rfl, hb1⟩; have x0 : W1.cell? ⟨w.heap.size, 0, none⟩ = some (.bool s) := (hb1.cell (p := ⟨w.heap.size, 0, none⟩) (by first | (simp; done) | (simp; omega) | omega)).trans (by first | assumption | (go_simp; done)); have x1 : W1.cell? ⟨w.heap.size, 1, none⟩ = some (.int .u64 h) := (hb1.cell (p := ⟨w.heap.size, 1, none⟩) (by first | (simp; done) | (simp; omega) | omega)).trans (by first | assumption | (go_simp; done)); have x2 : W1.cell? ⟨w.heap.size, 2, none⟩ = some (.int .u64 l) := (hb1.cell (p := ⟨w.heap.size, 2, none⟩) (by first | (simp; done) | (simp; omega) | omega)).trans (by first | assumption | (go_simp; done)); have x3 : W1.cell? ⟨w.heap.size, 3, none⟩ = some (.int .i64 b) := (hb1.cell (p := ⟨w.heap.size, 3, none⟩) (by first | (simp; done) | (simp; omega) | omega)).trans (by first | assumption | (go_simp; done)); have x4 : W1.cell? ⟨w.heap.size, 4, none⟩ = some (.string n) := (hb1.cell (p := ⟨w.heap.size, 4, none⟩) (by first | (simp; done) | (simp; omega) | omega)).trans (by first | assumption | (go_simp; done)); have x5 : W1.cell? ⟨w.heap.size + 1, 0, none⟩ = some (.bool s') := (hb1.cell (p := ⟨w.heap.size + 1, 0, none⟩) (by first | (simp; done) | (simp; omega) | omega)).trans (by first | assumption | (go_simp; done)); have x6 : W1.cell? ⟨w.heap.size + 1, 1, none⟩ = some (.int .u64 h') := (hb1.cell (p := ⟨w.heap.size + 1, 1, none⟩) (by first | (simp; done) | (simp; omega) | omega)).trans (by first | assumption | (go_simp; done)); have x7 : W1.cell? ⟨w.heap.size + 1, 2, none⟩ = some (.int .u64 l') := (hb1.cell (p := ⟨w.heap.size + 1, 2, none⟩) (by first | (simp; done) | (simp; omega) | omega)).trans (by first | assumption | (go_simp; done)); have x8 : W1.cell? ⟨w.heap.size + 1, 3, none⟩ = some (.int .i64 b') := (hb1.cell (p := ⟨w.heap.size + 1, 3, none⟩) (by first | (simp; done) | (simp; omega) | omega)).trans (by first | assumption | (go_simp; done)); have x9 : W1.cell? ⟨w.heap.size + 1, 4, none⟩ = some (.string n') := (hb1.cell (p := ⟨w.heap.size + 1, 4, none⟩) (by first | (simp; done) | (simp; omega) | omega)).trans (by first | assumption | (go_simp; done)); have hsz : w.heap.size + 2 ≤ W1.heap.size := (by have := hb1.size; (try simp at this); omega); have hl0 : w.heap.size < W1.heap.size := (by omega); have hl1 : w.heap.size + 1 < W1.heap.size := (by omega); have HBW : Hid (Below w.heap.size w W1) := (by first | exact Lib.hid (HBW.out.trans (hb1.mono (by omega))) | exact Lib.hid (HBW.out.drew.trans (hb1.mono (show w.heap.size ≤ W.heap.size by omega)))))
      | (go_at_call 42; refine (cmp_any _ _ _).mono ?_; rintro e W2 ⟨rfl, rfl⟩)
      | (go_at_call 40; refine (or_any W1.heap.size [orOf [spanC s h l s' h' l', cmpI b b'], Lib.compareBytes n.data.toList n'.data.toList] _ (by exact heap_alloc_new W1 _) 2 2 rfl (by simp)).mono ?_; rintro e W2 ⟨rfl, rfl⟩))
  go_wp2_with fail
  go_ret
  exact ⟨rfl, HBW.out.alloc HBW.out.size _⟩
end Go.Proofs.YtollmagiifkicaaGreatDoor
