/- Prefixes: Order, PrefixOrder, PrefixFault of the reference. -/
import Derived.Test.YtollmagiifkicaaGreatDoorWdD
import Derived.Test.YtollmagiifkicaaGreatDoorDrB
import Derived.Test.YtollmagiifkicaaGreatDoorFlt
namespace Go.Proofs.YtollmagiifkicaaGreatDoor
open Go.RowKit Go.Hw

def ordA (x y : Rt) : Int := cmpN (wd x.six x.hi x.lo) (wd y.six y.hi y.lo) 9

set_option maxRecDepth 100000 in
set_option maxHeartbeats 1000000 in
theorem order_any (s : Bool) (h l : Int) (s' : Bool) (h' l' : Int) (w : World) (uh : U64 h) (ul : U64 l) (uh' : U64 h') (ul' : U64 l') :
    Calls Tryz.prog 77 #[.agg #[.bool s, .int .u64 h, .int .u64 l], .agg #[.bool s', .int .u64 h', .int .u64 l']] w fun e w' => e = .returned (.int .i64 (cmpN (wd s h l) (wd s' h' l') 9)) ∧ Below w.heap.size w w' := by
  unfold U64 at uh ul uh' ul'
  have b0 : ((w.alloc (addrBox s h l)).alloc (addrBox s' h' l')).heap[w.heap.size]? = some (addrBox s h l) := (heap_alloc_old _ _ (by simp)).trans (heap_alloc_new w _)
  have b1 : ((w.alloc (addrBox s h l)).alloc (addrBox s' h' l')).heap[w.heap.size + 1]? = some (addrBox s' h' l') := by
    have := heap_alloc_new (w.alloc (addrBox s h l)) (addrBox s' h' l')
    simp only [Re_size] at this
    exact this
  obtain ⟨x0, x1, x2, -⟩ := res3 b0
  obtain ⟨x3, x4, x5, -⟩ := res3 b1
  have HB := Lib.hid (((Below.refl w.heap.size w).alloc (Nat.le_refl _) (addrBox s h l)).alloc (by simp) (addrBox s' h' l'))
  have hsz : w.heap.size + 2 ≤ ((w.alloc (addrBox s h l)).alloc (addrBox s' h' l')).heap.size := by simp
  unfold addrBox at x0 x1 x2 x3 x4 x5 hsz
  clear b0 b1
  go_enter Tryz.func77, Tryz.ntmps77
  go_wp2_with fail
  generalize hW : World.alloc _ _ = W at x0 x1 x2 x3 x4 x5 hsz ⊢
  have HBW : Hid (Below w.heap.size w W) := Lib.hid (by rw [← hW]; exact HB.out)
  clear hW HB
  go_region_held3 (fun w' => w'.cell? ⟨w.heap.size, 0, none⟩ = some (.bool s) ∧ w'.cell? ⟨w.heap.size, 1, none⟩ = some (.int .u64 h) ∧ w'.cell? ⟨w.heap.size, 2, none⟩ = some (.int .u64 l) ∧ w'.cell? ⟨w.heap.size + 1, 0, none⟩ = some (.bool s') ∧ w'.cell? ⟨w.heap.size + 1, 1, none⟩ = some (.int .u64 h') ∧ w'.cell? ⟨w.heap.size + 1, 2, none⟩ = some (.int .u64 l'))
    (first | exact ⟨x0, x1, x2, x3, x4, x5⟩ | ((repeat' apply And.intro) <;> (first | (go_simp; done) | with_reducible assumption)))
    (first
      | (go_at_call 61; refine (of_any _ _ _ _ (by assumption) (by assumption)).mono ?_; rintro e W1 ⟨rfl, hb1⟩; have x0 : W1.cell? ⟨w.heap.size, 0, none⟩ = some (.bool s) := (hb1.cell (p := ⟨w.heap.size, 0, none⟩) (by (try simp); omega)).trans (by first | assumption | (go_simp; done)); have x1 : W1.cell? ⟨w.heap.size, 1, none⟩ = some (.int .u64 h) := (hb1.cell (p := ⟨w.heap.size, 1, none⟩) (by (try simp); omega)).trans (by first | assumption | (go_simp; done)); have x2 : W1.cell? ⟨w.heap.size, 2, none⟩ = some (.int .u64 l) := (hb1.cell (p := ⟨w.heap.size, 2, none⟩) (by (try simp); omega)).trans (by first | assumption | (go_simp; done)); have x3 : W1.cell? ⟨w.heap.size + 1, 0, none⟩ = some (.bool s') := (hb1.cell (p := ⟨w.heap.size + 1, 0, none⟩) (by (try simp); omega)).trans (by first | assumption | (go_simp; done)); have x4 : W1.cell? ⟨w.heap.size + 1, 1, none⟩ = some (.int .u64 h') := (hb1.cell (p := ⟨w.heap.size + 1, 1, none⟩) (by (try simp); omega)).trans (by first | assumption | (go_simp; done)); have x5 : W1.cell? ⟨w.heap.size + 1, 2, none⟩ = some (.int .u64 l') := (hb1.cell (p := ⟨w.heap.size + 1, 2, none⟩) (by (try simp); omega)).trans (by first | assumption | (go_simp; done)); have hsz : w.heap.size + 2 ≤ W1.heap.size := (by have := hb1.size; (try simp at this); omega); have HBW : Hid (Below w.heap.size w W1) := (by first | exact Lib.hid (HBW.out.trans (hb1.mono (by omega))) | exact Lib.hid (HBW.out.drew.trans (hb1.mono (show w.heap.size ≤ W.heap.size by omega)))))
      | (go_at_call 62; refine (wideCmp_any _ _ _ (wd_bd _ _ _) (wd_bd _ _ _)).mono ?_; rintro e W1 ⟨rfl, hb1⟩; have x0 : W1.cell? ⟨w.heap.size, 0, none⟩ = some (.bool s) := (hb1.cell (p := ⟨w.heap.size, 0, none⟩) (by (try simp); omega)).trans (by first | assumption | (go_simp; done)); have x1 : W1.cell? ⟨w.heap.size, 1, none⟩ = some (.int .u64 h) := (hb1.cell (p := ⟨w.heap.size, 1, none⟩) (by (try simp); omega)).trans (by first | assumption | (go_simp; done)); have x2 : W1.cell? ⟨w.heap.size, 2, none⟩ = some (.int .u64 l) := (hb1.cell (p := ⟨w.heap.size, 2, none⟩) (by (try simp); omega)).trans (by first | assumption | (go_simp; done)); have x3 : W1.cell? ⟨w.heap.size + 1, 0, none⟩ = some (.bool s') := (hb1.cell (p := ⟨w.heap.size + 1, 0, none⟩) (by (try simp); omega)).trans (by first | assumption | (go_simp; done)); have x4 : W1.cell? ⟨w.heap.size + 1, 1, none⟩ = some (.int .u64 h') := (hb1.cell (p := ⟨w.heap.size + 1, 1, none⟩) (by (try simp); omega)).trans (by first | assumption | (go_simp; done)); have x5 : W1.cell? ⟨w.heap.size + 1, 2, none⟩ = some (.int .u64 l') := (hb1.cell (p := ⟨w.heap.size + 1, 2, none⟩) (by (try simp); omega)).trans (by first | assumption | (go_simp; done)); have HBW : Hid (Below w.heap.size w W1) := (by first | exact Lib.hid (HBW.out.trans (hb1.mono (by omega))) | exact Lib.hid (HBW.out.drew.trans (hb1.mono (show w.heap.size ≤ W.heap.size by omega))))))
  go_wp2_with fail
  go_ret
  exact ⟨rfl, HBW.out⟩
/-! PrefixOrder -/
set_option maxRecDepth 100000 in
set_option maxHeartbeats 1000000 in
theorem prefixOrder_any (s : Bool) (h l b : Int) (s' : Bool) (h' l' b' : Int) (w : World) (uh : U64 h) (ul : U64 l) (uh' : U64 h') (ul' : U64 l') :
    Calls Tryz.prog 41 #[.agg #[.bool s, .int .u64 h, .int .u64 l, .int .i64 b], .agg #[.bool s', .int .u64 h', .int .u64 l', .int .i64 b']] w fun e w' => e = .returned (.int .i64 (orOf [cmpN (wd s h l) (wd s' h' l') 9, cmpI b b'])) ∧ Below w.heap.size w w' := by
  have b0 : ((w.alloc (pfBox s h l b)).alloc (pfBox s' h' l' b')).heap[w.heap.size]? = some (pfBox s h l b) := (heap_alloc_old _ _ (by simp)).trans (heap_alloc_new w _)
  have b1 : ((w.alloc (pfBox s h l b)).alloc (pfBox s' h' l' b')).heap[w.heap.size + 1]? = some (pfBox s' h' l' b') := by
    have := heap_alloc_new (w.alloc (pfBox s h l b)) (pfBox s' h' l' b')
    simp only [Re_size] at this
    exact this
  obtain ⟨⟨x0, x1, x2, x3⟩, -⟩ := res4 b0
  obtain ⟨⟨x4, x5, x6, x7⟩, -⟩ := res4 b1
  have HB := Lib.hid (((Below.refl w.heap.size w).alloc (Nat.le_refl _) (pfBox s h l b)).alloc (by simp) (pfBox s' h' l' b'))
  have hsz : w.heap.size + 2 ≤ ((w.alloc (pfBox s h l b)).alloc (pfBox s' h' l' b')).heap.size := by simp
  unfold pfBox at x0 x1 x2 x3 x4 x5 x6 x7 hsz
  clear b0 b1
  go_enter Tryz.func41, Tryz.ntmps41
  go_wp2_with fail
  generalize hW : World.alloc _ _ = W at x0 x1 x2 x3 x4 x5 x6 x7 hsz ⊢
  have HBW : Hid (Below w.heap.size w W) := Lib.hid (by rw [← hW]; exact HB.out)
  clear hW HB
  go_region_held3 (fun w' => w'.cell? ⟨w.heap.size, 0, none⟩ = some (.bool s) ∧ w'.cell? ⟨w.heap.size, 1, none⟩ = some (.int .u64 h) ∧ w'.cell? ⟨w.heap.size, 2, none⟩ = some (.int .u64 l) ∧ w'.cell? ⟨w.heap.size, 3, none⟩ = some (.int .i64 b) ∧ w'.cell? ⟨w.heap.size + 1, 0, none⟩ = some (.bool s') ∧ w'.cell? ⟨w.heap.size + 1, 1, none⟩ = some (.int .u64 h') ∧ w'.cell? ⟨w.heap.size + 1, 2, none⟩ = some (.int .u64 l') ∧ w'.cell? ⟨w.heap.size + 1, 3, none⟩ = some (.int .i64 b'))
    (first | exact ⟨x0, x1, x2, x3, x4, x5, x6, x7⟩ | ((repeat' apply And.intro) <;> (first | (go_simp; done) | with_reducible assumption)))
    (first
      | (go_at_call 77; refine (order_any _ _ _ _ _ _ _ uh ul uh' ul').mono ?_; rintro e W1 ⟨rfl, hb1⟩; have x0 : W1.cell? ⟨w.heap.size, 0, none⟩ = some (.bool s) := (hb1.cell (p := ⟨w.heap.size, 0, none⟩) (by (try simp); omega)).trans (by first | assumption | (go_simp; done)); have x1 : W1.cell? ⟨w.heap.size, 1, none⟩ = some (.int .u64 h) := (hb1.cell (p := ⟨w.heap.size, 1, none⟩) (by (try simp); omega)).trans (by first | assumption | (go_simp; done)); have x2 : W1.cell? ⟨w.heap.size, 2, none⟩ = some (.int .u64 l) := (hb1.cell (p := ⟨w.heap.size, 2, none⟩) (by (try simp); omega)).trans (by first | assumption | (go_simp; done)); have x3 : W1.cell? ⟨w.heap.size, 3, none⟩ = some (.int .i64 b) := (hb1.cell (p := ⟨w.heap.size, 3, none⟩) (by (try simp); omega)).trans (by first | assumption | (go_simp; done)); have x4 : W1.cell? ⟨w.heap.size + 1, 0, none⟩ = some (.bool s') := (hb1.cell (p := ⟨w.heap.size + 1, 0, none⟩) (by (try simp); omega)).trans (by first | assumption | (go_simp; done)); have x5 : W1.cell? ⟨w.heap.size + 1, 1, none⟩ = some (.int .u64 h') := (hb1.cell (p := ⟨w.heap.size + 1, 1, none⟩) (by (try simp); omega)).trans (by first | assumption | (go_simp; done)); have x6 : W1.cell? ⟨w.heap.size + 1, 2, none⟩ = some (.int .u64 l') := (hb1.cell (p := ⟨w.heap.size + 1, 2, none⟩) (by (try simp); omega)).trans (by first | assumption | (go_simp; done)); have x7 : W1.cell? ⟨w.heap.size + 1, 3, none⟩ = some (.int .i64 b') := (hb1.cell (p := ⟨w.heap.size + 1, 3, none⟩) (by (try simp); omega)).trans (by first | assumption | (go_simp; done)); have hsz : w.heap.size + 2 ≤ W1.heap.size := (by have := hb1.size; (try simp at this); omega); have hl0 : w.heap.size < W1.heap.size := (by omega); have hl1 : w.heap.size + 1 < W1.heap.size := (by omega); have HBW : Hid (Below w.heap.size w W1) := (by first | exact Lib.hid (HBW.out.trans (hb1.mono (by omega))) | exact Lib.hid (HBW.out.drew.trans (hb1.mono (show w.heap.size ≤ W.heap.size by omega)))))
      | (go_at_call 44; refine (cmpI_any _ _ _).mono ?_; rintro e W2 ⟨rfl, rfl⟩)
      | (go_at_call 40; refine (or_any W1.heap.size [cmpN (wd s h l) (wd s' h' l') 9, cmpI b b'] _ (by exact heap_alloc_new W1 _) 2 2 rfl (by simp)).mono ?_; rintro e W2 ⟨rfl, rfl⟩))
  go_wp2_with fail
  go_ret
  exact ⟨rfl, HBW.out.alloc HBW.out.size _⟩
end Go.Proofs.YtollmagiifkicaaGreatDoor
