/- laneref2.FlowOrder, ReportOrder: functions of their reports. -/
import Derived.Test.YthjfnlbekbhmgaaGreatDoorSpA
import Derived.Test.YthjfnlbekbhmgaaGreatDoorRpP
namespace Go.Proofs.YthjfnlbekbhmgaaGreatDoor
open Go.RowKit Go.Hw

def refI (a b : Int) : Int := sgn (wrap64 (a - b))
theorem new_at {W : World} {o : Obj} {n : Nat} (h : W.heap.size = n) : (W.alloc o).heap[n]? = some o := h ▸ heap_alloc_new W o
def cmp2 (a b c d : Int) : Int := if cmpI a c ≠ 0 then cmpI a c else cmpI b d
set_option maxRecDepth 100000 in
set_option maxHeartbeats 1000000 in
theorem compare2_any (A B : Nat) (a b c d : Int) (T U : TypeId) (w : World) (hA : w.heap[A]? = some (.cells #[.int .i64 a, .int .i64 b] T (0, 0))) (hB : w.heap[B]? = some (.cells #[.int .i64 c, .int .i64 d] U (0, 0))) :
    Calls Tryz.prog 89 #[.slice (some ⟨A, 0, none⟩) 2 2, .slice (some ⟨B, 0, none⟩) 2 2] w fun e w' => e = .returned (.int .i64 (cmp2 a b c d)) ∧ w = w' := by
  obtain ⟨⟨x0, x1⟩, -⟩ := res2 hA
  obtain ⟨⟨y0, y1⟩, -⟩ := res2 hB
  have la := lt_of_block hA
  have lb := lt_of_block hB
  have hc := fun x y => cmpI_any x y w
  have q3 : IntKind.i64.wrap ((0 : Int) + 1) = 1 := by decide
  have q4 : IntKind.i64.wrap ((1 : Int) + 1) = 2 := by decide
  go_enter Tryz.func89, Tryz.ntmps89
  go_wp2_with fail
  refine wp_loop_rounds 3 ?_
  rw [rounds_succ]
  go_wp2_with fail
  refine (hc a c).mono ?_
  rintro e W ⟨rfl, rfl⟩
  by_cases h1 : cmpI a c = 0
  · have g1 : (cmpI a c != 0) = false := by simp [h1]
    have H1 := Lib.hid h1
    clear h1
    go_wp2_with fail
    rw [rounds_succ]
    go_wp2_with fail
    refine (hc b d).mono ?_
    rintro e W ⟨rfl, rfl⟩
    by_cases h2 : cmpI b d = 0
    · have g2 : (cmpI b d != 0) = false := by simp [h2]
      have H2 := Lib.hid h2
      clear h2
      go_wp2_with fail
      rw [rounds_succ]
      go_wp2_with fail
      go_ret
      exact ⟨ret_eq (by unfold cmp2; rw [if_neg (by simp [H1.out]), H2.out]), rfl⟩
    · have g2 : (cmpI b d != 0) = true := by simp [h2]
      clear h2
      go_wp2_with fail
      go_ret
      exact ⟨ret_eq (by unfold cmp2; rw [if_neg (by simp [H1.out])]), rfl⟩
  · have g1 : (cmpI a c != 0) = true := by simp [h1]
    have H1 := Lib.hid h1
    clear h1
    go_wp2_with fail
    go_ret
    exact ⟨ret_eq (by unfold cmp2; rw [if_pos H1.out]), rfl⟩
/-- laneref2's order of flows. -/
def refF (f g : Fl) : Int :=
  if (f.proto != g.proto) = true then refI f.proto g.proto
  else if (!(f.s6 == g.s6 && (f.sh == g.sh && f.sl == g.sl))) = true then cmpN (wd f.s6 f.sh f.sl) (wd g.s6 g.sh g.sl) 9
  else if (!(f.t6 == g.t6 && (f.th == g.th && f.tl == g.tl))) = true then cmpN (wd f.t6 f.th f.tl) (wd g.t6 g.th g.tl) 9
  else cmp2 f.fp f.tp g.fp g.tp
structure FlT (f : Fl) : Prop where
  sh : U64 f.sh
  sl : U64 f.sl
  th : U64 f.th
  tl : U64 f.tl
set_option maxRecDepth 100000 in
set_option maxHeartbeats 4000000 in
theorem flowOrder_any (f g : Fl) (w : World) (hf : FlT f) (hg : FlT g) : Calls Tryz.prog 53 #[.agg (flA f), .agg (flA g)] w fun e w' => e = .returned (.int .i64 (refF f g)) ∧ Below w.heap.size w w' := by
  have HF := Lib.hid hf
  have HG := Lib.hid hg
  have HB := Lib.hid ((bl_alloc w (.cells (flA f) 37)).alloc (by simp) (.cells (flA g) 37))
  clear hf hg
  by_cases c1 : (f.proto != g.proto) = true
  · have HV : Hid (refF f g = refI f.proto g.proto) := Lib.hid (by unfold refF; rw [if_pos c1])
    unfold flA
    go_enter Tryz.func53, Tryz.ntmps53
    go_wp2_with fail
    refine (sign_any _ _).mono ?_
    rintro e W ⟨rfl, rfl⟩
    go_wp2_with fail
    go_ret
    exact ⟨ret_eq (by rw [HV.out]; rfl), HB.out⟩
  · have c1 : (f.proto != g.proto) = false := by simpa using c1
    have g1 : Tryz.prog.eqGuardType Tryz.prog.depth 35 = false := by kernel_rfl
    have hx := fun a b x y u v W => run_eq_addr 9998 a b x y u v W
    obtain ⟨p1, hp1⟩ : ∃ p1 : Bool, (f.s6 == g.s6 && (f.sh == g.sh && f.sl == g.sl)) = p1 := ⟨_, rfl⟩
    obtain ⟨p2, hp2⟩ : ∃ p2 : Bool, (f.t6 == g.t6 && (f.th == g.th && f.tl == g.tl)) = p2 := ⟨_, rfl⟩
    have HV : Hid (refF f g = if (!p1) = true then cmpN (wd f.s6 f.sh f.sl) (wd g.s6 g.sh g.sl) 9 else if (!p2) = true then cmpN (wd f.t6 f.th f.tl) (wd g.t6 g.th g.tl) 9 else cmp2 f.fp f.tp g.fp g.tp) := Lib.hid (by unfold refF; rw [if_neg (by simp [c1]), hp1, hp2])
    have hx1 := fun W => hx f.s6 g.s6 f.sh g.sh f.sl g.sl W
    have hx2 := fun W => hx f.t6 g.t6 f.th g.th f.tl g.tl W
    rw [hp1] at hx1
    rw [hp2] at hx2
    clear hx hp1 hp2
    unfold flA at HB ⊢
    cases p1
    · go_enter Tryz.func53, Tryz.ntmps53
      go_wp2_with fail
      refine (order_any _ _ _ _ _ _ _ HF.out.sh HF.out.sl HG.out.sh HG.out.sl).mono ?_
      rintro e W ⟨rfl, hb⟩
      have HBW := Lib.hid (HB.out.trans (hb.mono HB.out.size))
      clear hb
      go_wp2_with fail
      go_ret
      exact ⟨ret_eq (by rw [HV.out]; rfl), HBW.out⟩
    · cases p2
      · go_enter Tryz.func53, Tryz.ntmps53
        go_wp2_with fail
        refine (order_any _ _ _ _ _ _ _ HF.out.th HF.out.tl HG.out.th HG.out.tl).mono ?_
        rintro e W ⟨rfl, hb⟩
        have HBW := Lib.hid (HB.out.trans (hb.mono HB.out.size))
        clear hb
        go_wp2_with fail
        go_ret
        exact ⟨ret_eq (by rw [HV.out]; rfl), HBW.out⟩
      · go_enter Tryz.func53, Tryz.ntmps53
        go_wp2_with fail
        refine (compare2_any (w.heap.size + 1 + 1) (w.heap.size + 1 + 1 + 1) f.fp f.tp g.fp g.tp _ _ _ ((heap_alloc_old _ _ (by simp)).trans (new_at (by simp))) (new_at (by simp))).mono ?_
        rintro e W ⟨rfl, rfl⟩
        have HBW := Lib.hid ((HB.out.alloc HB.out.size (.cells #[.int .i64 f.fp, .int .i64 f.tp] 3)).alloc (by have := HB.out.size; simp at this ⊢; omega) (.cells #[.int .i64 g.fp, .int .i64 g.tp] 3))
        go_wp2_with fail
        go_ret
        exact ⟨ret_eq (by rw [HV.out]; rfl), HBW.out⟩
/-- laneref2's order of reports. -/
def refR (a b : Rp) : Int :=
  if (a.hour != b.hour) = true then refI a.hour b.hour
  else if (!(a.node.toList == b.node.toList)) = true then cmpS a.node b.node
  else if (!(a.out == b.out)) = true then (if b.out then -1 else 1)
  else refF a.f b.f
theorem RpT.fl {r : Rp} (h : RpT r) : FlT r.f := ⟨h.sh, h.sl, h.th, h.tl⟩
set_option maxRecDepth 100000 in
set_option maxHeartbeats 4000000 in
theorem reportOrder_any (a b : Rp) (w : World) (ha : RpT a) (hb : RpT b) : Calls Tryz.prog 23 #[.agg (rpA a), .agg (rpA b)] w fun e w' => e = .returned (.int .i64 (refR a b)) ∧ Below w.heap.size w w' := by
  have HF := Lib.hid ha.fl
  have HG := Lib.hid hb.fl
  have HB := Lib.hid ((bl_alloc w (.cells (rpA a) 39)).alloc (by simp) (.cells (rpA b) 39))
  clear ha hb
  obtain ⟨p0, hp0⟩ : ∃ p : Bool, (a.hour != b.hour) = p := ⟨_, rfl⟩
  obtain ⟨p1, hp1⟩ : ∃ p : Bool, (a.node.toList == b.node.toList) = p := ⟨_, rfl⟩
  have HV : Hid (refR a b = if p0 = true then refI a.hour b.hour else if (!p1) = true then cmpS a.node b.node else if (!(a.out == b.out)) = true then (if b.out then -1 else 1) else refF a.f b.f) := Lib.hid (by unfold refR; rw [hp0, hp1])
  unfold rpA at HB ⊢
  cases p0
  · cases p1
    · go_enter Tryz.func23, Tryz.ntmps23
      go_wp2_with fail
      refine (cmpS_any _ _ _).mono ?_
      rintro e W ⟨rfl, rfl⟩
      go_wp2_with fail
      go_ret
      exact ⟨ret_eq (by rw [HV.out]; rfl), HB.out⟩
    · generalize ho : a.out = ao at HV HB ⊢
      generalize hq : b.out = bo at HV HB ⊢
      cases ao <;> cases bo
      · go_enter Tryz.func23, Tryz.ntmps23
        go_wp2_with fail
        refine (flowOrder_any a.f b.f _ HF.out HG.out).mono ?_
        rintro e W ⟨rfl, hb⟩
        have HBW := Lib.hid (HB.out.trans (hb.mono HB.out.size))
        clear hb
        go_wp2_with fail
        go_ret
        exact ⟨ret_eq (by rw [HV.out]; rfl), HBW.out⟩
      · go_enter Tryz.func23, Tryz.ntmps23
        go_wp2_with fail
        go_ret
        exact ⟨ret_eq (by rw [HV.out]; rfl), HB.out⟩
      · go_enter Tryz.func23, Tryz.ntmps23
        go_wp2_with fail
        go_ret
        exact ⟨ret_eq (by rw [HV.out]; rfl), HB.out⟩
      · go_enter Tryz.func23, Tryz.ntmps23
        go_wp2_with fail
        refine (flowOrder_any a.f b.f _ HF.out HG.out).mono ?_
        rintro e W ⟨rfl, hb⟩
        have HBW := Lib.hid (HB.out.trans (hb.mono HB.out.size))
        clear hb
        go_wp2_with fail
        go_ret
        exact ⟨ret_eq (by rw [HV.out]; rfl), HBW.out⟩
  · go_enter Tryz.func23, Tryz.ntmps23
    go_wp2_with fail
    refine (sign_any _ _).mono ?_
    rintro e W ⟨rfl, rfl⟩
    go_wp2_with fail
    go_ret
    exact ⟨ret_eq (by rw [HV.out]; rfl), HB.out⟩
theorem entersRO : ∀ args w, (callFunc 23 args).run Tryz.prog w = .ok (.enter 23 args) w := enters_of Tryz.func23 (by kernel_rfl) rfl
/-- The closure that CompactFunc asks. -/
theorem sameR_any (a b : Rp) (w : World) (ha : RpT a) (hb : RpT b) : Calls Tryz.prog 25 #[.agg (rpA a), .agg (rpA b)] w fun e w' => e = .returned (.bool (refR a b == 0)) ∧ Below w.heap.size w w' := by
  have HB := Lib.hid ((bl_alloc w (.cells (rpA a) 39)).alloc (by simp) (.cells (rpA b) 39))
  have hr := fun W => reportOrder_any a b W ha hb
  clear ha hb
  unfold rpA at HB hr ⊢
  go_enter Tryz.func25, Tryz.ntmps25
  go_wp2_with fail
  refine (hr _).mono ?_
  rintro e W ⟨rfl, hb⟩
  have HBW := Lib.hid (HB.out.trans (hb.mono HB.out.size))
  clear hb hr
  go_wp2_with fail
  go_ret
  exact ⟨rfl, HBW.out⟩
end Go.Proofs.YthjfnlbekbhmgaaGreatDoor
