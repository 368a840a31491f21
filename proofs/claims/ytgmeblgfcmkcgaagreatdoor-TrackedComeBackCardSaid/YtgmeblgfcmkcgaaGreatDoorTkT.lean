/- filter.Tracker: the closures of see, timeFault, see. -/
import Derived.Test.YtgmeblgfcmkcgaaGreatDoorTkS
import Derived.Test.YtgmeblgfcmkcgaaGreatDoorKey
import Derived.WalkSmall
import Derived.BigQuiet
namespace Go.Proofs.YtgmeblgfcmkcgaaGreatDoor
open Go.RowKit Go.Hw

set_option maxHeartbeats 1000000 in
theorem see1_any (T B3 B5 : Nat) (last : Int) (A : Option Addr) (n cap : Nat) (x : Tk) (at_ : Int) (w : World) (t t3 t5 : TypeId) (h : w.heap[T]? = some (.cells (tkB last A n cap) t (0, 0)))
    (h3 : w.heap[B3]? = some (.cells #[.pointer (some ⟨T, 0, none⟩)] t3 (0, 0))) (h5 : w.heap[B5]? = some (.cells #[.int .i64 at_] t5 (0, 0))) (ha : 0 ≤ x.last) (hb : x.last ≤ 100000) (h2 : 0 ≤ at_) (h4 : at_ ≤ 100000) :
    Calls Tryz.prog 57 #[.agg #[.int .i64 x.f.proto, .bool x.f.s6, .int .u64 x.f.sh, .int .u64 x.f.sl, .bool x.f.t6, .int .u64 x.f.th, .int .u64 x.f.tl, .int .i64 x.f.fp, .int .i64 x.f.tp, .int .i64 x.last, .bool x.ans, .bool x.done], .pointer (some ⟨B3, 0, none⟩), .pointer (some ⟨B5, 0, none⟩)] w
      fun e w' => e = .returned (.bool (endedT at_ x)) ∧ Below w.heap.size w w' := by
  have c3 := cell_of h3 0
  have c5 := cell_of h5 0
  have l3 := lt_of_block h3
  have l5 := lt_of_block h5
  have HB := bl_alloc w (.cells #[.int .i64 x.f.proto, .bool x.f.s6, .int .u64 x.f.sh, .int .u64 x.f.sl, .bool x.f.t6, .int .u64 x.f.th, .int .u64 x.f.tl, .int .i64 x.f.fp, .int .i64 x.f.tp, .int .i64 x.last, .bool x.ans, .bool x.done] 128)
  have HT := Lib.hid (old1 (a := .cells #[.int .i64 x.f.proto, .bool x.f.s6, .int .u64 x.f.sh, .int .u64 x.f.sl, .bool x.f.t6, .int .u64 x.f.th, .int .u64 x.f.tl, .int .i64 x.f.fp, .int .i64 x.f.tp, .int .i64 x.last, .bool x.ans, .bool x.done] 128) h)
  simp only [List.getElem?_toArray, List.getElem?_cons_zero] at c3 c5
  clear h h3 h5
  go_enter Tryz.func57, Tryz.ntmps57
  go_wp2_with fail
  refine (ended_any T last A n cap x at_ _ t HT.out ha hb h2 h4).mono ?_
  rintro e w1 ⟨rfl, hb1⟩
  have HF := HB.trans (hb1.mono HB.size)
  clear hb1 HB HT c3 c5
  go_wp2_with fail
  go_ret
  exact ⟨rfl, HF⟩
theorem run_eq_addr (d : Nat) (a b : Bool) (x y u v : Int) (w : World) : (Op.equalIn (d + 2) 34 (.agg #[.bool a, .int .u64 x, .int .u64 u]) (.agg #[.bool b, .int .u64 y, .int .u64 v])).run Tryz.prog w = .ok (a == b && (x == y && u == v)) w := by
  have hA : Tryz.prog.underlying 34 = some (.struct (Tryz.prog.fieldsOf 34)) := by kernel_rfl
  have pA : Tryz.prog.stoodInHeld 34 = false := by kernel_rfl
  rw [run_equalIn_agg w (d + 1) 34 _ _ hA pA]
  simp only [Program.fieldsOf, Tryz.underlying34]
  go_simp
  by_cases h1 : a = b <;> by_cases h2 : x = y <;> by_cases h3 : u = v <;> simp [h1, h2, h3]
set_option maxRecDepth 100000 in
set_option maxHeartbeats 2000000 in
theorem run_eq_fl (d : Nat) (f g : Fl) (w : World) : (Op.equalIn (d + 4) 63 (.agg #[.int .i64 f.proto, .bool f.s6, .int .u64 f.sh, .int .u64 f.sl, .bool f.t6, .int .u64 f.th, .int .u64 f.tl, .int .i64 f.fp, .int .i64 f.tp]) (.agg #[.int .i64 g.proto, .bool g.s6, .int .u64 g.sh, .int .u64 g.sl, .bool g.t6, .int .u64 g.th, .int .u64 g.tl, .int .i64 g.fp, .int .i64 g.tp])).run Tryz.prog w = .ok (decide (f = g)) w := by
  have u2 := Tryz.underlying3
  have hA : Tryz.prog.underlying 63 = some (.struct (Tryz.prog.fieldsOf 63)) := by kernel_rfl
  have pA : Tryz.prog.stoodInHeld 63 = false := by kernel_rfl
  have hx := run_eq_addr
  rw [run_equalIn_agg w (d + 3) 63 _ _ hA pA]
  simp only [Program.fieldsOf, Tryz.underlying63]
  go_simp
  by_cases h : f = g
  · subst h; simp
  · rw [decide_eq_false h]
    have hn : ¬ (f.proto = g.proto ∧ (f.s6 = g.s6 ∧ f.sh = g.sh ∧ f.sl = g.sl) ∧ (f.t6 = g.t6 ∧ f.th = g.th ∧ f.tl = g.tl) ∧ f.fp = g.fp ∧ f.tp = g.tp) := by
      intro c
      apply h
      cases f; cases g
      simp_all
    split
    · split
      · rfl
      · rename_i c1 c2
        split
        · rfl
        · rename_i c3
          split
          · split
            · rename_i c4 c5
              exfalso
              simp only [Classical.not_imp, Classical.not_not] at c2 c3
              exact hn ⟨c1, c2, c3, c4, c5⟩
            · rfl
          · rfl
    · rfl
def isMom (a : Int) : Bool := decide (0 ≤ a) && decide (a ≤ 345686399)
theorem isMom_any (a : Int) (w : World) : Calls Tryz.prog 55 #[.int .i64 a] w fun e w' => e = .returned (.bool (isMom a)) ∧ w = w' := by
  by_cases h : 0 ≤ a
  · go_enter Tryz.func55, Tryz.ntmps55
    go_wp2
    go_ret
    exact ⟨ret_bool (by unfold isMom; rw [Bool.eq_iff_iff]; simp only [Bool.and_eq_true, decide_eq_true_eq]; omega), rfl⟩
  · go_enter Tryz.func55, Tryz.ntmps55
    go_wp2
    go_ret
    exact ⟨ret_bool (by unfold isMom; rw [Bool.eq_iff_iff]; simp only [Bool.and_eq_true, decide_eq_true_eq, Bool.false_eq_true, false_iff]; omega), rfl⟩
theorem timeFault_any (T : Nat) (last : Int) (A : Option Addr) (n cap : Nat) (at_ : Int) (w : World) (t : TypeId) (h : w.heap[T]? = some (.cells (tkB last A n cap) t (0, 0))) (h0 : 0 ≤ at_) (h1 : at_ ≤ 100000) (h2 : last ≤ at_) :
    Calls Tryz.prog 25 #[.pointer (some ⟨T, 0, none⟩), .int .i64 at_] w fun e w' => e = .returned (.int .i64 0) ∧ w = w' := by
  obtain ⟨⟨c0, c1, c2, c3, c4, c5, c6, c7⟩, -, -, lT⟩ := tkB_cells h
  have hm : isMom at_ = true := by unfold isMom; simp; omega
  have hd : decide (at_ < last) = false := by simp; omega
  clear h
  go_enter Tryz.func25, Tryz.ntmps25
  go_wp2_with fail
  refine (isMom_any at_ _).mono ?_
  rintro e w1 ⟨rfl, rfl⟩
  go_wp2_with fail
  go_ret
  exact ⟨rfl, rfl⟩
theorem keepB {w w1 : World} {a : Addr} {v : Value} (hb : Below w.heap.size w w1) (h : w.cell? a = some v) : w1.cell? a = some v := by
  have hl : a.block < w.heap.size := by
    by_cases c : a.block < w.heap.size
    · exact c
    · simp [World.cell?, Array.getElem?_eq_none (Nat.le_of_not_lt c)] at h
  exact (hb.cell hl).trans h
theorem bl_dn {w w' : World} (h : Below w.heap.size w w') (n : Nat) : Below w.heap.size w (w'.drewN n) := ⟨h.os, h.tape, h.output, h.size, h.block⟩
theorem bl_dr' {w W W1 : World} (h : Below W.drew.heap.size W.drew W1) (hs : w.heap.size ≤ W.heap.size) : Below w.heap.size W W1 := ⟨h.os, h.tape, h.output, h.size, fun k hk => h.block k (Nat.lt_of_lt_of_le hk hs)⟩
theorem guard_fl : Tryz.prog.eqGuardType Tryz.prog.depth 63 = false := by kernel_rfl
set_option maxHeartbeats 2000000 in
theorem see2_any (F : Nat) (f : Fl) (x : Tk) (w : World) (t : TypeId) (h : w.heap[F]? = some (.cells (flA f) t (0, 0))) :
    Calls Tryz.prog 60 #[.agg #[.int .i64 x.f.proto, .bool x.f.s6, .int .u64 x.f.sh, .int .u64 x.f.sl, .bool x.f.t6, .int .u64 x.f.th, .int .u64 x.f.tl, .int .i64 x.f.fp, .int .i64 x.f.tp, .int .i64 x.last, .bool x.ans, .bool x.done], .pointer (some ⟨F, 0, none⟩)] w fun e w' => e = .returned (.bool (sameT f x)) ∧ Below w.heap.size w w' := by
  have lF := lt_of_block h
  have c0 : w.cell? ⟨F, 0, none⟩ = some (.int .i64 f.proto) := cell_of h 0
  have c1 : w.cell? ⟨F, 1, none⟩ = some (.bool f.s6) := cell_of h 1
  have c2 : w.cell? ⟨F, 2, none⟩ = some (.int .u64 f.sh) := cell_of h 2
  have c3 : w.cell? ⟨F, 3, none⟩ = some (.int .u64 f.sl) := cell_of h 3
  have c4 : w.cell? ⟨F, 4, none⟩ = some (.bool f.t6) := cell_of h 4
  have c5 : w.cell? ⟨F, 5, none⟩ = some (.int .u64 f.th) := cell_of h 5
  have c6 : w.cell? ⟨F, 6, none⟩ = some (.int .u64 f.tl) := cell_of h 6
  have c7 : w.cell? ⟨F, 7, none⟩ = some (.int .i64 f.fp) := cell_of h 7
  have c8 : w.cell? ⟨F, 8, none⟩ = some (.int .i64 f.tp) := cell_of h 8
  have gd := guard_fl
  have HB := bl_alloc w (.cells #[.int .i64 x.f.proto, .bool x.f.s6, .int .u64 x.f.sh, .int .u64 x.f.sl, .bool x.f.t6, .int .u64 x.f.th, .int .u64 x.f.tl, .int .i64 x.f.fp, .int .i64 x.f.tp, .int .i64 x.last, .bool x.ans, .bool x.done] 128)
  clear h
  by_cases he : x.f = f
  · have hq := fun W => (run_eq_fl 9996 x.f f W).trans (show _ = Result.ok true W from by rw [decide_eq_true he])
    have HS := Lib.hid (show sameT f x = true from by unfold sameT; simp [he])
    clear he
    go_enter Tryz.func60, Tryz.ntmps60
    go_wp2_with fail
    go_quiet (fail)
    go_wp2_with fail
    go_ret
    exact ⟨by rw [HS.out]; rfl, bl_dn HB _⟩
  · have hq := fun W => (run_eq_fl 9996 x.f f W).trans (show _ = Result.ok false W from by rw [decide_eq_false he])
    have hq2 := fun W => run_eq_fl 9996 x.f (backF f) W
    have HS := Lib.hid (show sameT f x = decide (x.f = backF f) from by unfold sameT; simp [he])
    clear he
    go_enter Tryz.func60, Tryz.ntmps60
    go_wp2_with fail
    have HN := heap_alloc_new w (.cells #[.int .i64 x.f.proto, .bool x.f.s6, .int .u64 x.f.sh, .int .u64 x.f.sl, .bool x.f.t6, .int .u64 x.f.th, .int .u64 x.f.tl, .int .i64 x.f.fp, .int .i64 x.f.tp, .int .i64 x.last, .bool x.ans, .bool x.done] 128)
    have x0 := (cell_of HN 0)
    have d0 := keepB HB c0
    have x1 := (cell_of HN 1)
    have d1 := keepB HB c1
    have x2 := (cell_of HN 2)
    have d2 := keepB HB c2
    have x3 := (cell_of HN 3)
    have d3 := keepB HB c3
    have x4 := (cell_of HN 4)
    have d4 := keepB HB c4
    have x5 := (cell_of HN 5)
    have d5 := keepB HB c5
    have x6 := (cell_of HN 6)
    have d6 := keepB HB c6
    have x7 := (cell_of HN 7)
    have d7 := keepB HB c7
    have x8 := (cell_of HN 8)
    have d8 := keepB HB c8
    simp only [List.getElem?_toArray, List.getElem?_cons_zero, List.getElem?_cons_succ] at x0 x1 x2 x3 x4 x5 x6 x7 x8
    generalize hW : World.alloc w _ = W at *
    have HBW := Lib.hid HB
    clear hW HB HN c0 c1 c2 c3 c4 c5 c6 c7 c8
    go_region_held3 (fun w' => w'.cell? ⟨F, 0, none⟩ = some (.int .i64 f.proto) ∧ w'.cell? ⟨F, 1, none⟩ = some (.bool f.s6) ∧ w'.cell? ⟨F, 2, none⟩ = some (.int .u64 f.sh) ∧ w'.cell? ⟨F, 3, none⟩ = some (.int .u64 f.sl) ∧ w'.cell? ⟨F, 4, none⟩ = some (.bool f.t6) ∧ w'.cell? ⟨F, 5, none⟩ = some (.int .u64 f.th) ∧ w'.cell? ⟨F, 6, none⟩ = some (.int .u64 f.tl) ∧ w'.cell? ⟨F, 7, none⟩ = some (.int .i64 f.fp) ∧ w'.cell? ⟨F, 8, none⟩ = some (.int .i64 f.tp) ∧ w'.cell? ⟨w.heap.size, 0, none⟩ = some (.int .i64 x.f.proto) ∧ w'.cell? ⟨w.heap.size, 1, none⟩ = some (.bool x.f.s6) ∧ w'.cell? ⟨w.heap.size, 2, none⟩ = some (.int .u64 x.f.sh) ∧ w'.cell? ⟨w.heap.size, 3, none⟩ = some (.int .u64 x.f.sl) ∧ w'.cell? ⟨w.heap.size, 4, none⟩ = some (.bool x.f.t6) ∧ w'.cell? ⟨w.heap.size, 5, none⟩ = some (.int .u64 x.f.th) ∧ w'.cell? ⟨w.heap.size, 6, none⟩ = some (.int .u64 x.f.tl) ∧ w'.cell? ⟨w.heap.size, 7, none⟩ = some (.int .i64 x.f.fp) ∧ w'.cell? ⟨w.heap.size, 8, none⟩ = some (.int .i64 x.f.tp)) ((repeat' apply And.intro) <;> (repeat (first | with_reducible assumption | with_reducible refine keepD ?_ | with_reducible refine keepB hb1 ?_)))
      (first
        | (go_at_call 61; refine (back_any f _).mono ?_; rintro e W1 ⟨rfl, hb1⟩))
    all_goals (
      go_wp2_with fail
      go_ret
      exact ⟨by rw [HS.out]; rfl, HBW.out.trans (bl_dr' hb1 HBW.out.size)⟩)
end Go.Proofs.YtgmeblgfcmkcgaaGreatDoor
