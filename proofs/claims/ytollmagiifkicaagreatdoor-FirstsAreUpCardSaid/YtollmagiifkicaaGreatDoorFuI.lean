/- Prefixes: Holds of the reference, span.Contains. Prefixes: span.Contains. -/
import Derived.Test.YtollmagiifkicaaGreatDoorFuB
import Derived.Test.YtollmagiifkicaaGreatDoorMkE
import Derived.BigQuiet
namespace Go.Proofs.YtollmagiifkicaaGreatDoor
open Go.RowKit Go.Hw

theorem ret_eqb {a b : Bool} (h : a = b) : Ending.returned (.bool a) = .returned (.bool b) := by rw [h]
theorem cmpN_ext {d e d' e' : Nat → Int} : ∀ {n : Nat}, (∀ i, i < n → d i = d' i) → (∀ i, i < n → e i = e' i) → cmpN d e n = cmpN d' e' n
  | 0, _, _ => rfl
  | n + 1, h1, h2 => by
    unfold cmpN
    rw [h1 n (by omega), h2 n (by omega), cmpN_ext (fun i hi => h1 i (by omega)) (fun i hi => h2 i (by omega))]
theorem holds_eq {p6 : Bool} {ph pl pb : Int} {s : Bool} {h l : Int} {m : Nat} (up : U64 ph) (uq : U64 pl) (uh : U64 h) (ul : U64 l) (hm : lenA p6 - pb = m) (hm2 : m ≤ 128) (hph : clr ph (m - 64) = ph) (hpl : clr pl (min 64 m) = pl) :
    (decide (cmpN (wd p6 ph pl) (wd s h l) 9 ≤ 0) && decide (cmpN (wd s h l) (fild (wd p6 ph pl) m) 9 ≤ 0)) = holdsP ⟨p6, ph, pl, pb⟩ s h l := by
  have e : cmpN (wd s h l) (fild (wd p6 ph pl) m) 9 = cmpN (wd s h l) (wd p6 (fil ph (m - 64)) (fil pl (min 64 m))) 9 := cmpN_ext (fun _ _ => rfl) fun i hi => fild_wd up uq hm2 hi
  rw [e, cmp_span up uq uh ul, cmp_span uh ul (fil_u64 up (by omega)) (fil_u64 uq (by omega))]
  have := holds_iff (p := ⟨p6, ph, pl, pb⟩) (s := s) (h := h) uq ul hm hm2 hph hpl
  cases hx : holdsP ⟨p6, ph, pl, pb⟩ s h l
  · rw [hx] at this
    simp only [Bool.false_eq_true, iff_false, not_and] at this
    simp only [Bool.and_eq_false_iff, decide_eq_false_iff_not]
    by_cases h1 : spanC p6 ph pl s h l ≤ 0
    · exact .inr (this h1)
    · exact .inl h1
  · rw [hx] at this
    have h2 := this.2 rfl
    simp [h2.1, h2.2]

set_option maxRecDepth 100000 in
set_option maxHeartbeats 2000000 in
theorem refHolds_any (s : Bool) (h l b : Int) (s' : Bool) (h' l' : Int) (w : World) (up : U64 h) (uq : U64 l) (uh : U64 h') (ul : U64 l') (hc : pfCode s h l b = 0) :
    Calls Tryz.prog 22 #[.agg #[.bool s, .int .u64 h, .int .u64 l, .int .i64 b], .agg #[.bool s', .int .u64 h', .int .u64 l']] w fun e w' => e = .returned (.bool (holdsP ⟨s, h, l, b⟩ s' h' l')) ∧ Below w.heap.size w w' := by
  obtain ⟨-, ⟨hb0, -⟩, m, hm, hm2, hph, hpl⟩ := pf_parts up uq hc
  have HE := Lib.hid (holds_eq (s := s') up uq uh ul hm hm2 hph hpl)
  have HM := Lib.hid hm
  have UP := Lib.hid up
  have UQ := Lib.hid uq
  unfold U64 at up uq uh ul
  clear hc hm hph hpl
  have b0 : ((w.alloc (pfBox s h l b)).alloc (addrBox s' h' l')).heap[w.heap.size]? = some (pfBox s h l b) := (heap_alloc_old _ _ (by simp)).trans (heap_alloc_new w _)
  have b1 : ((w.alloc (pfBox s h l b)).alloc (addrBox s' h' l')).heap[w.heap.size + 1]? = some (addrBox s' h' l') := by
    have := heap_alloc_new (w.alloc (pfBox s h l b)) (addrBox s' h' l')
    simp only [Re_size] at this
    exact this
  obtain ⟨⟨x0, x1, x2, x3⟩, -⟩ := res4 b0
  obtain ⟨x4, x5, x6, -⟩ := res3 b1
  have HB := Lib.hid (((Below.refl w.heap.size w).alloc (Nat.le_refl _) (pfBox s h l b)).alloc (by simp) (addrBox s' h' l'))
  have hsz : w.heap.size + 2 ≤ ((w.alloc (pfBox s h l b)).alloc (addrBox s' h' l')).heap.size := by simp
  unfold pfBox addrBox at x0 x1 x2 x3 x4 x5 x6 hsz
  clear b0 b1
  go_enter Tryz.func22, Tryz.ntmps22
  go_wp2_with fail
  generalize hW : World.alloc _ _ = W at x0 x1 x2 x3 x4 x5 x6 hsz ⊢
  have HBW : Hid (Below w.heap.size w W) := Lib.hid (by rw [← hW]; exact HB.out)
  clear hW HB
  cases hd : decide (cmpN (wd s h l) (wd s' h' l') 9 ≤ 0)
  · rw [hd, Bool.false_and] at HE
    first | (go_region_with (first
        | (go_at_call 61; refine (of_any _ _ _ _ (by assumption) (by assumption)).mono ?_; rintro e W1 ⟨rfl, hb1⟩; have x0 : W1.cell? ⟨w.heap.size, 0, none⟩ = some (.bool s) := (hb1.cell (p := ⟨w.heap.size, 0, none⟩) (by first | (simp; done) | (simp; omega) | omega)).trans (by first | assumption | (go_simp; done)); have x1 : W1.cell? ⟨w.heap.size, 1, none⟩ = some (.int .u64 h) := (hb1.cell (p := ⟨w.heap.size, 1, none⟩) (by first | (simp; done) | (simp; omega) | omega)).trans (by first | assumption | (go_simp; done)); have x2 : W1.cell? ⟨w.heap.size, 2, none⟩ = some (.int .u64 l) := (hb1.cell (p := ⟨w.heap.size, 2, none⟩) (by first | (simp; done) | (simp; omega) | omega)).trans (by first | assumption | (go_simp; done)); have x3 : W1.cell? ⟨w.heap.size, 3, none⟩ = some (.int .i64 b) := (hb1.cell (p := ⟨w.heap.size, 3, none⟩) (by first | (simp; done) | (simp; omega) | omega)).trans (by first | assumption | (go_simp; done)); have x4 : W1.cell? ⟨w.heap.size + 1, 0, none⟩ = some (.bool s') := (hb1.cell (p := ⟨w.heap.size + 1, 0, none⟩) (by first | (simp; done) | (simp; omega) | omega)).trans (by first | assumption | (go_simp; done)); have x5 : W1.cell? ⟨w.heap.size + 1, 1, none⟩ = some (.int .u64 h') := (hb1.cell (p := ⟨w.heap.size + 1, 1, none⟩) (by first | (simp; done) | (simp; omega) | omega)).trans (by first | assumption | (go_simp; done)); have x6 : W1.cell? ⟨w.heap.size + 1, 2, none⟩ = some (.int .u64 l') := (hb1.cell (p := ⟨w.heap.size + 1, 2, none⟩) (by first | (simp; done) | (simp; omega) | omega)).trans (by first | assumption | (go_simp; done)); have hsz : w.heap.size + 2 ≤ W1.heap.size := (by have := hb1.size; (try simp at this); omega); have HBW : Hid (Below w.heap.size w W1) := (by first | exact Lib.hid (HBW.out.trans (hb1.mono (by omega))) | exact Lib.hid (HBW.out.drew.trans (hb1.mono (by first | omega | (simp; omega))))))
        | (go_at_call 62; refine (wideCmp_any _ _ _ (by first | exact wd_bd _ _ _ | exact fild_bd (wd_bd _ _ _) _) (by first | exact wd_bd _ _ _ | exact fild_bd (wd_bd _ _ _) _)).mono ?_; rintro e W1 ⟨rfl, hb1⟩; have x0 : W1.cell? ⟨w.heap.size, 0, none⟩ = some (.bool s) := (hb1.cell (p := ⟨w.heap.size, 0, none⟩) (by first | (simp; done) | (simp; omega) | omega)).trans (by first | assumption | (go_simp; done)); have x1 : W1.cell? ⟨w.heap.size, 1, none⟩ = some (.int .u64 h) := (hb1.cell (p := ⟨w.heap.size, 1, none⟩) (by first | (simp; done) | (simp; omega) | omega)).trans (by first | assumption | (go_simp; done)); have x2 : W1.cell? ⟨w.heap.size, 2, none⟩ = some (.int .u64 l) := (hb1.cell (p := ⟨w.heap.size, 2, none⟩) (by first | (simp; done) | (simp; omega) | omega)).trans (by first | assumption | (go_simp; done)); have x3 : W1.cell? ⟨w.heap.size, 3, none⟩ = some (.int .i64 b) := (hb1.cell (p := ⟨w.heap.size, 3, none⟩) (by first | (simp; done) | (simp; omega) | omega)).trans (by first | assumption | (go_simp; done)); have x4 : W1.cell? ⟨w.heap.size + 1, 0, none⟩ = some (.bool s') := (hb1.cell (p := ⟨w.heap.size + 1, 0, none⟩) (by first | (simp; done) | (simp; omega) | omega)).trans (by first | assumption | (go_simp; done)); have x5 : W1.cell? ⟨w.heap.size + 1, 1, none⟩ = some (.int .u64 h') := (hb1.cell (p := ⟨w.heap.size + 1, 1, none⟩) (by first | (simp; done) | (simp; omega) | omega)).trans (by first | assumption | (go_simp; done)); have x6 : W1.cell? ⟨w.heap.size + 1, 2, none⟩ = some (.int .u64 l') := (hb1.cell (p := ⟨w.heap.size + 1, 2, none⟩) (by first | (simp; done) | (simp; omega) | omega)).trans (by first | assumption | (go_simp; done)); have hsz : w.heap.size + 2 ≤ W1.heap.size := (by have := hb1.size; (try simp at this); omega); have HBW : Hid (Below w.heap.size w W1) := (by first | exact Lib.hid (HBW.out.trans (hb1.mono (by omega))) | exact Lib.hid (HBW.out.drew.trans (hb1.mono (by first | omega | (simp; omega)))))))) | done
    all_goals
      go_wp2_with fail
      go_ret
      exact ⟨ret_eqb HE.out, HBW.out⟩
  · rw [hd, Bool.true_and] at HE
    first | (go_region_held3 (fun w' => w'.cell? ⟨w.heap.size, 0, none⟩ = some (.bool s) ∧ w'.cell? ⟨w.heap.size, 1, none⟩ = some (.int .u64 h) ∧ w'.cell? ⟨w.heap.size, 2, none⟩ = some (.int .u64 l) ∧ w'.cell? ⟨w.heap.size, 3, none⟩ = some (.int .i64 b) ∧ w'.cell? ⟨w.heap.size + 1, 0, none⟩ = some (.bool s') ∧ w'.cell? ⟨w.heap.size + 1, 1, none⟩ = some (.int .u64 h') ∧ w'.cell? ⟨w.heap.size + 1, 2, none⟩ = some (.int .u64 l'))
      (first | exact ⟨x0, x1, x2, x3, x4, x5, x6⟩ | ((repeat' apply And.intro) <;> (first | (go_simp; done) | with_reducible assumption)))
      (first
        | (go_at_call 61; refine (of_any _ _ _ _ (by assumption) (by assumption)).mono ?_; rintro e W1 ⟨rfl, hb1⟩; have x0 : W1.cell? ⟨w.heap.size, 0, none⟩ = some (.bool s) := (hb1.cell (p := ⟨w.heap.size, 0, none⟩) (by first | (simp; done) | (simp; omega) | omega)).trans (by first | assumption | (go_simp; done)); have x1 : W1.cell? ⟨w.heap.size, 1, none⟩ = some (.int .u64 h) := (hb1.cell (p := ⟨w.heap.size, 1, none⟩) (by first | (simp; done) | (simp; omega) | omega)).trans (by first | assumption | (go_simp; done)); have x2 : W1.cell? ⟨w.heap.size, 2, none⟩ = some (.int .u64 l) := (hb1.cell (p := ⟨w.heap.size, 2, none⟩) (by first | (simp; done) | (simp; omega) | omega)).trans (by first | assumption | (go_simp; done)); have x3 : W1.cell? ⟨w.heap.size, 3, none⟩ = some (.int .i64 b) := (hb1.cell (p := ⟨w.heap.size, 3, none⟩) (by first | (simp; done) | (simp; omega) | omega)).trans (by first | assumption | (go_simp; done)); have x4 : W1.cell? ⟨w.heap.size + 1, 0, none⟩ = some (.bool s') := (hb1.cell (p := ⟨w.heap.size + 1, 0, none⟩) (by first | (simp; done) | (simp; omega) | omega)).trans (by first | assumption | (go_simp; done)); have x5 : W1.cell? ⟨w.heap.size + 1, 1, none⟩ = some (.int .u64 h') := (hb1.cell (p := ⟨w.heap.size + 1, 1, none⟩) (by first | (simp; done) | (simp; omega) | omega)).trans (by first | assumption | (go_simp; done)); have x6 : W1.cell? ⟨w.heap.size + 1, 2, none⟩ = some (.int .u64 l') := (hb1.cell (p := ⟨w.heap.size + 1, 2, none⟩) (by first | (simp; done) | (simp; omega) | omega)).trans (by first | assumption | (go_simp; done)); have hsz : w.heap.size + 2 ≤ W1.heap.size := (by have := hb1.size; (try simp at this); omega); have HBW : Hid (Below w.heap.size w W1) := (by first | exact Lib.hid (HBW.out.trans (hb1.mono (by omega))) | exact Lib.hid (HBW.out.drew.trans (hb1.mono (by first | omega | (simp; omega))))))
        | (go_at_call 63; refine (lastOf_any _ _ _ _ _ UP.out UQ.out m HM.out hm2 hb0).mono ?_; rintro e W1 ⟨rfl, hb1⟩; have x0 : W1.cell? ⟨w.heap.size, 0, none⟩ = some (.bool s) := (hb1.cell (p := ⟨w.heap.size, 0, none⟩) (by first | (simp; done) | (simp; omega) | omega)).trans (by first | assumption | (go_simp; done)); have x1 : W1.cell? ⟨w.heap.size, 1, none⟩ = some (.int .u64 h) := (hb1.cell (p := ⟨w.heap.size, 1, none⟩) (by first | (simp; done) | (simp; omega) | omega)).trans (by first | assumption | (go_simp; done)); have x2 : W1.cell? ⟨w.heap.size, 2, none⟩ = some (.int .u64 l) := (hb1.cell (p := ⟨w.heap.size, 2, none⟩) (by first | (simp; done) | (simp; omega) | omega)).trans (by first | assumption | (go_simp; done)); have x3 : W1.cell? ⟨w.heap.size, 3, none⟩ = some (.int .i64 b) := (hb1.cell (p := ⟨w.heap.size, 3, none⟩) (by first | (simp; done) | (simp; omega) | omega)).trans (by first | assumption | (go_simp; done)); have x4 : W1.cell? ⟨w.heap.size + 1, 0, none⟩ = some (.bool s') := (hb1.cell (p := ⟨w.heap.size + 1, 0, none⟩) (by first | (simp; done) | (simp; omega) | omega)).trans (by first | assumption | (go_simp; done)); have x5 : W1.cell? ⟨w.heap.size + 1, 1, none⟩ = some (.int .u64 h') := (hb1.cell (p := ⟨w.heap.size + 1, 1, none⟩) (by first | (simp; done) | (simp; omega) | omega)).trans (by first | assumption | (go_simp; done)); have x6 : W1.cell? ⟨w.heap.size + 1, 2, none⟩ = some (.int .u64 l') := (hb1.cell (p := ⟨w.heap.size + 1, 2, none⟩) (by first | (simp; done) | (simp; omega) | omega)).trans (by first | assumption | (go_simp; done)); have hsz : w.heap.size + 2 ≤ W1.heap.size := (by have := hb1.size; (try simp at this); omega); have HBW : Hid (Below w.heap.size w W1) := (by first | exact Lib.hid (HBW.out.trans (hb1.mono (by omega))) | exact Lib.hid (HBW.out.drew.trans (hb1.mono (by first | omega | (simp; omega))))))
        | (go_at_call 62; refine (wideCmp_any _ _ _ (by first | exact wd_bd _ _ _ | exact fild_bd (wd_bd _ _ _) _) (by first | exact wd_bd _ _ _ | exact fild_bd (wd_bd _ _ _) _)).mono ?_; rintro e W1 ⟨rfl, hb1⟩; have x0 : W1.cell? ⟨w.heap.size, 0, none⟩ = some (.bool s) := (hb1.cell (p := ⟨w.heap.size, 0, none⟩) (by first | (simp; done) | (simp; omega) | omega)).trans (by first | assumption | (go_simp; done)); have x1 : W1.cell? ⟨w.heap.size, 1, none⟩ = some (.int .u64 h) := (hb1.cell (p := ⟨w.heap.size, 1, none⟩) (by first | (simp; done) | (simp; omega) | omega)).trans (by first | assumption | (go_simp; done)); have x2 : W1.cell? ⟨w.heap.size, 2, none⟩ = some (.int .u64 l) := (hb1.cell (p := ⟨w.heap.size, 2, none⟩) (by first | (simp; done) | (simp; omega) | omega)).trans (by first | assumption | (go_simp; done)); have x3 : W1.cell? ⟨w.heap.size, 3, none⟩ = some (.int .i64 b) := (hb1.cell (p := ⟨w.heap.size, 3, none⟩) (by first | (simp; done) | (simp; omega) | omega)).trans (by first | assumption | (go_simp; done)); have x4 : W1.cell? ⟨w.heap.size + 1, 0, none⟩ = some (.bool s') := (hb1.cell (p := ⟨w.heap.size + 1, 0, none⟩) (by first | (simp; done) | (simp; omega) | omega)).trans (by first | assumption | (go_simp; done)); have x5 : W1.cell? ⟨w.heap.size + 1, 1, none⟩ = some (.int .u64 h') := (hb1.cell (p := ⟨w.heap.size + 1, 1, none⟩) (by first | (simp; done) | (simp; omega) | omega)).trans (by first | assumption | (go_simp; done)); have x6 : W1.cell? ⟨w.heap.size + 1, 2, none⟩ = some (.int .u64 l') := (hb1.cell (p := ⟨w.heap.size + 1, 2, none⟩) (by first | (simp; done) | (simp; omega) | omega)).trans (by first | assumption | (go_simp; done)); have hsz : w.heap.size + 2 ≤ W1.heap.size := (by have := hb1.size; (try simp at this); omega); have HBW : Hid (Below w.heap.size w W1) := (by first | exact Lib.hid (HBW.out.trans (hb1.mono (by omega))) | exact Lib.hid (HBW.out.drew.trans (hb1.mono (by first | omega | (simp; omega)))))))) | done
    go_wp2_with fail
    go_ret
    exact ⟨ret_eqb HE.out, HBW.out⟩
end Go.Proofs.YtollmagiifkicaaGreatDoor

namespace Go.Proofs.YtollmagiifkicaaGreatDoor
open Go.RowKit Go.Hw

set_option maxRecDepth 100000 in
set_option maxHeartbeats 2000000 in
theorem contains_any (s : Bool) (h l b : Int) (s' : Bool) (h' l' : Int) (w : World) (up : U64 h) (uq : U64 l) (uh : U64 h') (ul : U64 l') (hc : pfCode s h l b = 0) :
    Calls Tryz.prog 60 #[.agg #[.bool s, .int .u64 h, .int .u64 l, .int .i64 b], .agg #[.bool s', .int .u64 h', .int .u64 l']] w fun e w' => e = .returned (.bool (holdsP ⟨s, h, l, b⟩ s' h' l')) ∧ Below w.heap.size w w' := by
  obtain ⟨-, -, m, hm, hm2, -⟩ := pf_parts up uq hc
  have HE : Hid (holdsP ⟨s, h, l, b⟩ s' h' l' = (decide (s = s') && (decide (clr h' (m - 64) = h) && decide (clr l' (min 64 m) = l)))) := Lib.hid (by unfold holdsP; simp only; rw [hm, Int.toNat_natCast])
  have HM := Lib.hid hm
  have UH := Lib.hid uh
  have UL := Lib.hid ul
  have hgd := guard_addr
  clear hc hm
  have b0 : ((w.alloc (pfBox s h l b)).alloc (addrBox s' h' l')).heap[w.heap.size]? = some (pfBox s h l b) := (heap_alloc_old _ _ (by simp)).trans (heap_alloc_new w _)
  have b1 : ((w.alloc (pfBox s h l b)).alloc (addrBox s' h' l')).heap[w.heap.size + 1]? = some (addrBox s' h' l') := by
    have := heap_alloc_new (w.alloc (pfBox s h l b)) (addrBox s' h' l')
    simp only [Re_size] at this
    exact this
  obtain ⟨⟨x0, x1, x2, x3⟩, -⟩ := res4 b0
  obtain ⟨x4, x5, x6, -⟩ := res3 b1
  have HB := Lib.hid (((Below.refl w.heap.size w).alloc (Nat.le_refl _) (pfBox s h l b)).alloc (by simp) (addrBox s' h' l'))
  have hsz : w.heap.size + 2 ≤ ((w.alloc (pfBox s h l b)).alloc (addrBox s' h' l')).heap.size := by simp
  unfold pfBox addrBox at x0 x1 x2 x3 x4 x5 x6 hsz
  clear b0 b1
  go_enter Tryz.func60, Tryz.ntmps60
  go_wp2_with fail
  generalize hW : World.alloc _ _ = W at x0 x1 x2 x3 x4 x5 x6 hsz ⊢
  have HBW : Hid (Below w.heap.size w W) := Lib.hid (by rw [← hW]; exact HB.out)
  clear hW HB
  by_cases hss : s = s'
  · subst hss
    rw [decide_eq_true (rfl : s = s), Bool.true_and] at HE
    have hbb : (s == s) = true := by simp
    have hq := fun W => (run_eq_addr 9998 s s (clr h' (m - 64)) h (clr l' (min 64 m)) l W).trans (show _ = Result.ok (decide (clr h' (m - 64) = h) && decide (clr l' (min 64 m) = l)) W from by rw [hbb, Bool.true_and]; rfl)
    first | (go_region_held3 (fun w' => w'.cell? ⟨w.heap.size, 0, none⟩ = some (.bool s) ∧ w'.cell? ⟨w.heap.size, 1, none⟩ = some (.int .u64 h) ∧ w'.cell? ⟨w.heap.size, 2, none⟩ = some (.int .u64 l) ∧ w'.cell? ⟨w.heap.size, 3, none⟩ = some (.int .i64 b) ∧ w'.cell? ⟨w.heap.size + 1, 0, none⟩ = some (.bool s) ∧ w'.cell? ⟨w.heap.size + 1, 1, none⟩ = some (.int .u64 h') ∧ w'.cell? ⟨w.heap.size + 1, 2, none⟩ = some (.int .u64 l'))
      (first | exact ⟨x0, x1, x2, x3, x4, x5, x6⟩ | ((repeat' apply And.intro) <;> (first | (go_simp; done) | with_reducible assumption)))
      (first
        | (go_at_call 95; refine (masked_any _ _ _ _ _ UH.out UL.out m HM.out hm2).mono ?_; rintro e W1 ⟨rfl, hb1⟩; have x0 : W1.cell? ⟨w.heap.size, 0, none⟩ = some (.bool s) := (hb1.cell (p := ⟨w.heap.size, 0, none⟩) (by first | (simp; done) | (simp; omega) | omega)).trans (by first | assumption | (go_simp; done)); have x1 : W1.cell? ⟨w.heap.size, 1, none⟩ = some (.int .u64 h) := (hb1.cell (p := ⟨w.heap.size, 1, none⟩) (by first | (simp; done) | (simp; omega) | omega)).trans (by first | assumption | (go_simp; done)); have x2 : W1.cell? ⟨w.heap.size, 2, none⟩ = some (.int .u64 l) := (hb1.cell (p := ⟨w.heap.size, 2, none⟩) (by first | (simp; done) | (simp; omega) | omega)).trans (by first | assumption | (go_simp; done)); have x3 : W1.cell? ⟨w.heap.size, 3, none⟩ = some (.int .i64 b) := (hb1.cell (p := ⟨w.heap.size, 3, none⟩) (by first | (simp; done) | (simp; omega) | omega)).trans (by first | assumption | (go_simp; done)); have x4 : W1.cell? ⟨w.heap.size + 1, 0, none⟩ = some (.bool s) := (hb1.cell (p := ⟨w.heap.size + 1, 0, none⟩) (by first | (simp; done) | (simp; omega) | omega)).trans (by first | assumption | (go_simp; done)); have x5 : W1.cell? ⟨w.heap.size + 1, 1, none⟩ = some (.int .u64 h') := (hb1.cell (p := ⟨w.heap.size + 1, 1, none⟩) (by first | (simp; done) | (simp; omega) | omega)).trans (by first | assumption | (go_simp; done)); have x6 : W1.cell? ⟨w.heap.size + 1, 2, none⟩ = some (.int .u64 l') := (hb1.cell (p := ⟨w.heap.size + 1, 2, none⟩) (by first | (simp; done) | (simp; omega) | omega)).trans (by first | assumption | (go_simp; done)); have hsz : w.heap.size + 2 ≤ W1.heap.size := (by have := hb1.size; (try simp at this); omega); have HBW : Hid (Below w.heap.size w W1) := (by first | exact Lib.hid (HBW.out.trans (hb1.mono (by omega))) | exact Lib.hid (HBW.out.drew.trans (hb1.mono (by first | omega | (simp; omega)))))))) | done
    go_wp2_with fail
    go_ret
    exact ⟨ret_eqb HE.out.symm, HBW.out⟩
  · rw [decide_eq_false hss, Bool.false_and] at HE
    have hbb : (s == s') = false := by rw [beq_eq_false_iff_ne]; exact hss
    go_quiet (fail)
    go_wp2_with fail
    go_ret
    exact ⟨ret_eqb HE.out.symm, below_dn HBW.out _⟩
end Go.Proofs.YtollmagiifkicaaGreatDoor
