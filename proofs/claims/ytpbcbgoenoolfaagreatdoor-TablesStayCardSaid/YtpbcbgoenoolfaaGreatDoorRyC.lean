/- lanekeep2's ready(): rule.CheckPolicy at what it reads. -/
import Derived.Test.YtpbcbgoenoolfaaGreatDoorRyB
import Derived.BigQuiet
import Derived.WalkSmall
namespace Go.Proofs.YtpbcbgoenoolfaaGreatDoor
open Go.RowKit Go.Hw Go.Shelf

theorem run_eq_pf (d : Nat) (a b : Bool) (x y u v m n : Int) (w : World) : (Op.equalIn (d + 3) 41 (.agg #[.bool a, .int .u64 x, .int .u64 u, .int .i64 m]) (.agg #[.bool b, .int .u64 y, .int .u64 v, .int .i64 n])).run Tryz.prog w = .ok ((a == b && (x == y && u == v)) && m == n) w := by
  have u2 := Tryz.underlying3
  have hA : Tryz.prog.underlying 41 = some (.struct (Tryz.prog.fieldsOf 41)) := by kernel_rfl
  have pA : Tryz.prog.stoodInHeld 41 = false := by kernel_rfl
  rw [run_equalIn_agg w (d + 2) 41 _ _ hA pA]
  simp only [Program.fieldsOf, Tryz.underlying41]
  go_simp
  by_cases h1 : a = b <;> by_cases h2 : x = y <;> by_cases h3 : u = v <;> by_cases h4 : m = n <;> simp [h1, h2, h3, h4]
theorem guard_pf : Tryz.prog.eqGuardType Tryz.prog.depth 41 = false := by kernel_rfl
theorem run_eq_ports (d : Nat) (x y u v : Int) (w : World) : (Op.equalIn (d + 2) 201 (.agg #[.int .i64 x, .int .i64 u]) (.agg #[.int .i64 y, .int .i64 v])).run Tryz.prog w = .ok (x == y && u == v) w := by
  have u2 := Tryz.underlying3
  have hA : Tryz.prog.underlying 201 = some (.struct (Tryz.prog.fieldsOf 201)) := by kernel_rfl
  have pA : Tryz.prog.stoodInHeld 201 = false := by kernel_rfl
  rw [run_equalIn_agg w (d + 1) 201 _ _ hA pA]
  simp only [Program.fieldsOf, Tryz.underlying201]
  go_simp
  by_cases h1 : x = y <;> by_cases h2 : u = v <;> simp [h1, h2]
theorem guard_ports : Tryz.prog.eqGuardType Tryz.prog.depth 201 = false := by kernel_rfl
theorem fourC {W : World} {R : Nat} {a0 a1 a2 a3 : Value} {T : TypeId} (h : W.heap[R]? = some (.cells #[a0, a1, a2, a3] T (0, 0))) : W.cell? ⟨R, 0, none⟩ = some a0 ∧ W.cell? ⟨R, 1, none⟩ = some a1 ∧ W.cell? ⟨R, 2, none⟩ = some a2 ∧ W.cell? ⟨R, 3, none⟩ = some a3 := by
  refine ⟨?_, ?_, ?_, ?_⟩ <;> simp [World.cell?, h]
theorem blk_two {w : World} (o o' : Obj) {c : Array Value} {t : TypeId} (ho' : o' = .cells c t) : ((w.alloc o).alloc o').heap[w.heap.size + 1]? = some (.cells c t (0, 0)) := by
  subst ho'
  have := heap_alloc_new (w.alloc o) (.cells c t)
  have h2 : (w.alloc o).heap.size = w.heap.size + 1 := by simp
  rw [h2] at this
  exact this

set_option maxRecDepth 100000 in
set_option maxHeartbeats 1000000 in
theorem whatFault_one (p0 p1 p2 p3 : Value) (w : World) :
    Calls Tryz.prog 148 #[.agg #[p0, p1, p2, p3], .agg #[.int .i64 1, .string ⟨#[]⟩, .bool false, .int .u64 0, .int .u64 0, .int .i64 0]] w fun e w' => e = .returned (.int .i64 0) ∧ Below w.heap.size w w' := by
  have hb := blk_two (w := w) (.cells #[p0, p1, p2, p3] 72) whatBlk rfl
  obtain ⟨y0, y1, y2, y3, y4, y5⟩ := sixC hb
  have HB := Lib.hid ((below_alloc1 w (.cells #[p0, p1, p2, p3] 72)).alloc (by simp) whatBlk)
  unfold whatBlk at y0 y1 y2 y3 y4 y5 HB
  have hq := fun W => (run_eq_pf 9997 false false 0 0 0 0 0 0 W).trans (show _ = Result.ok true W from rfl)
  have hgd := guard_pf
  clear hb
  go_enter Tryz.func148, Tryz.ntmps148
  go_wp2_with fail
  refine (outside_any _ _ _ _).mono ?_
  rintro e w1 ⟨rfl, rfl⟩
  go_wp2_with fail
  refine (outside_any _ _ _ _).mono ?_
  rintro e w1 ⟨rfl, rfl⟩
  go_wp2_with fail
  go_ret
  exact ⟨rfl, HB.out⟩
set_option maxRecDepth 100000 in
theorem rising_nil (w : World) (c : Nat) : Calls Tryz.prog 106 #[.slice none 0 c] w fun e w' => e = .returned (.int .i64 0) ∧ w = w' := by
  go_enter Tryz.func106, Tryz.ntmps106
  go_wp2_with fail
  refine wp_loop_rounds 1 ?_
  rw [rounds_succ]
  go_wp2_with fail
  go_ret
  exact ⟨rfl, rfl⟩
set_option maxRecDepth 100000 in
theorem hostsFault_nil (w : World) : Calls Tryz.prog 98 #[.slice none 0 0] w fun e w' => e = .returned (.int .i64 0) ∧ w = w' := by
  go_enter Tryz.func98, Tryz.ntmps98
  go_wp2_with fail
  refine wp_loop_rounds 1 ?_
  rw [rounds_succ]
  go_wp2_with fail
  go_ret
  exact ⟨rfl, rfl⟩
set_option maxRecDepth 100000 in
set_option maxHeartbeats 1000000 in
theorem groupsFault_nil (p1 p2 p3 : Value) (w : World) : Calls Tryz.prog 97 #[.agg #[.slice none 0 0, p1, p2, p3]] w fun e w' => e = .returned (.int .i64 0) ∧ Below w.heap.size w w' := by
  have hb := heap_alloc_new w (.cells #[.slice none 0 0, p1, p2, p3] 72)
  obtain ⟨y0, y1, y2, y3⟩ := fourC hb
  have HB := Lib.hid (below_alloc1 w (.cells #[.slice none 0 0, p1, p2, p3] 72))
  clear hb
  go_enter Tryz.func97, Tryz.ntmps97
  go_wp2_with fail
  refine wp_loop_rounds 1 ?_
  rw [rounds_succ]
  go_wp2_with fail
  refine wp_loop_rounds 1 ?_
  rw [rounds_succ]
  go_wp2_with fail
  refine wp_loop_rounds 1 ?_
  rw [rounds_succ]
  go_wp2_with fail
  go_ret
  exact ⟨rfl, HB.out⟩

/-- What lies in a block. -/
def CA (w : World) (b : Nat) (vs : List Value) : Prop := b < w.heap.size ∧ ∀ j u, vs[j]? = some u → w.cell? ⟨b, j, none⟩ = some u
theorem CA.below {w w' : World} {b : Nat} {vs : List Value} (h : CA w b vs) (hb : Below w.heap.size w w') : CA w' b vs := ⟨Nat.lt_of_lt_of_le h.1 hb.size, fun j u hu => (hb.cell (p := ⟨b, j, none⟩) h.1).trans (h.2 j u hu)⟩
theorem CA.made (w : World) (vs : List Value) (T : TypeId) : CA (w.alloc (.cells vs.toArray T)) w.heap.size vs := ⟨by simp, fun j u hu => by simp only [World.cell?, heap_alloc_new]; simpa using hu⟩
theorem CA.alloc {w : World} {b : Nat} {vs : List Value} (h : CA w b vs) (o : Obj) : CA (w.alloc o) b vs := h.below (below_alloc1 w o)
def starV : List Value := [.int .i64 1, .string ⟨#[]⟩, .bool false, .int .u64 0, .int .u64 0, .int .i64 0]
def targV : List Value := [.int .i64 1, .string ⟨#[]⟩, .bool false, .int .u64 0, .int .u64 0, .int .i64 0, .int .i64 0, .int .i64 65535]
theorem CA.c4 {w : World} {b : Nat} {a0 a1 a2 a3 : Value} (h : CA w b [a0, a1, a2, a3]) : w.cell? ⟨b, 0, none⟩ = some a0 ∧ w.cell? ⟨b, 1, none⟩ = some a1 ∧ w.cell? ⟨b, 2, none⟩ = some a2 ∧ w.cell? ⟨b, 3, none⟩ = some a3 := ⟨h.2 0 _ rfl, h.2 1 _ rfl, h.2 2 _ rfl, h.2 3 _ rfl⟩
theorem CA.c6 {w : World} {b : Nat} (h : CA w b starV) : w.cell? ⟨b, 0, none⟩ = some (.int .i64 1) ∧ w.cell? ⟨b, 1, none⟩ = some (.string ⟨#[]⟩) ∧ w.cell? ⟨b, 2, none⟩ = some (.bool false) ∧ w.cell? ⟨b, 3, none⟩ = some (.int .u64 0) ∧ w.cell? ⟨b, 4, none⟩ = some (.int .u64 0) ∧ w.cell? ⟨b, 5, none⟩ = some (.int .i64 0) := ⟨h.2 0 _ rfl, h.2 1 _ rfl, h.2 2 _ rfl, h.2 3 _ rfl, h.2 4 _ rfl, h.2 5 _ rfl⟩
theorem CA.c8 {w : World} {b : Nat} (h : CA w b targV) : w.cell? ⟨b, 0, none⟩ = some (.int .i64 1) ∧ w.cell? ⟨b, 1, none⟩ = some (.string ⟨#[]⟩) ∧ w.cell? ⟨b, 2, none⟩ = some (.bool false) ∧ w.cell? ⟨b, 3, none⟩ = some (.int .u64 0) ∧ w.cell? ⟨b, 4, none⟩ = some (.int .u64 0) ∧ w.cell? ⟨b, 5, none⟩ = some (.int .i64 0) ∧ w.cell? ⟨b, 6, none⟩ = some (.int .i64 0) ∧ w.cell? ⟨b, 7, none⟩ = some (.int .i64 65535) := ⟨h.2 0 _ rfl, h.2 1 _ rfl, h.2 2 _ rfl, h.2 3 _ rfl, h.2 4 _ rfl, h.2 5 _ rfl, h.2 6 _ rfl, h.2 7 _ rfl⟩
set_option maxRecDepth 100000 in
set_option maxHeartbeats 2000000 in
theorem grantFault_one (p0 p1 p2 p3 : Value) (sb cs db cd : Nat) (w : World) (hs : CA w sb starV) (hd : CA w db targV) :
    Calls Tryz.prog 99 #[.agg #[p0, p1, p2, p3], .agg #[.slice (some ⟨sb, 0, none⟩) 1 cs, .slice (some ⟨db, 0, none⟩) 1 cd, .int .i64 0, .slice none 0 0]] w fun e w' => e = .returned (.int .i64 0) ∧ Below w.heap.size w w' := by
  have hp := (CA.made w [p0, p1, p2, p3] 72).alloc (.cells #[.slice (some ⟨sb, 0, none⟩) 1 cs, .slice (some ⟨db, 0, none⟩) 1 cd, .int .i64 0, .slice none 0 0] 168)
  have hg := CA.made (w.alloc (.cells #[p0, p1, p2, p3] 72)) [.slice (some ⟨sb, 0, none⟩) 1 cs, .slice (some ⟨db, 0, none⟩) 1 cd, .int .i64 0, .slice none 0 0] 168
  have h2 : (w.alloc (.cells #[p0, p1, p2, p3] 72)).heap.size = w.heap.size + 1 := by simp
  rw [h2] at hg
  have hs0 := (hs.alloc (.cells #[p0, p1, p2, p3] 72)).alloc (.cells #[.slice (some ⟨sb, 0, none⟩) 1 cs, .slice (some ⟨db, 0, none⟩) 1 cd, .int .i64 0, .slice none 0 0] 168)
  have hd0 := (hd.alloc (.cells #[p0, p1, p2, p3] 72)).alloc (.cells #[.slice (some ⟨sb, 0, none⟩) 1 cs, .slice (some ⟨db, 0, none⟩) 1 cd, .int .i64 0, .slice none 0 0] 168)
  have HP := Lib.hid hp
  have HG := Lib.hid hg
  have HSV := Lib.hid hs0
  have HDV := Lib.hid hd0
  have HB := Lib.hid ((below_alloc1 w (.cells #[p0, p1, p2, p3] 72)).alloc (by simp) (.cells #[.slice (some ⟨sb, 0, none⟩) 1 cs, .slice (some ⟨db, 0, none⟩) 1 cd, .int .i64 0, .slice none 0 0] 168))
  obtain ⟨g0, g1, g2, g3⟩ := hg.c4
  obtain ⟨q0, q1, q2, q3⟩ := hp.c4
  obtain ⟨s0, s1, s2, s3, s4, s5⟩ := hs0.c6
  clear hp hg hs0 hd0 h2 hs hd
  go_enter Tryz.func99, Tryz.ntmps99
  go_wp2_with fail
  generalize World.alloc (World.alloc w _) _ = W0 at *
  have lp := HP.out.1
  have lg := HG.out.1
  have ls := HSV.out.1
  have ld := HDV.out.1
  refine wp_loop_rounds 2 ?_
  rw [rounds_succ]
  go_wp2_with fail
  refine (whatFault_one p0 p1 p2 p3 _).mono ?_
  rintro e W1 ⟨rfl, hb1⟩
  have HP := Lib.hid ((HP.out.alloc _).below hb1)
  have HG := Lib.hid ((HG.out.alloc _).below hb1)
  have HDV := Lib.hid ((HDV.out.alloc _).below hb1)
  have h6 := (CA.made W0 starV 226).below hb1
  have HB := Lib.hid (((HB.out).alloc HB.out.size _).trans (hb1.mono (by have := HB.out.size; simp; omega)))
  obtain ⟨t0, -⟩ := h6.c6
  obtain ⟨g0, g1, g2, g3⟩ := HG.out.c4
  obtain ⟨q0, q1, q2, q3⟩ := HP.out.c4
  obtain ⟨s0, s1, s2, s3, s4, s5, s6, s7⟩ := HDV.out.c8
  have lp := HP.out.1
  have lg := HG.out.1
  have ld := HDV.out.1
  clear hb1 h6 HSV
  go_wp2_with fail
  clear t0
  rw [rounds_succ]
  go_wp2_with fail
  refine wp_loop_rounds 2 ?_
  rw [rounds_succ]
  go_wp2_with fail
  refine (whatFault_one p0 p1 p2 p3 _).mono ?_
  rintro e W2 ⟨rfl, hb2⟩
  have HP := Lib.hid ((HP.out.alloc _).below hb2)
  have HG := Lib.hid ((HG.out.alloc _).below hb2)
  have h10 := (CA.made W1 targV 230).below hb2
  have HT := Lib.hid h10
  have HB := Lib.hid (((HB.out).alloc HB.out.size _).trans (hb2.mono (by have := HB.out.size; simp; omega)))
  obtain ⟨-, -, -, -, -, -, t6, t7⟩ := h10.c8
  obtain ⟨g0, g1, g2, g3⟩ := HG.out.c4
  clear hb2 h10 HDV HP s0 s1 s2 s3 s4 s5 s6 s7 q0 q1 q2 q3
  go_wp2_with fail
  refine (outside_any _ _ _ _).mono ?_
  rintro e w9 ⟨rfl, rfl⟩
  go_wp2_with fail
  have hq := fun W => (run_eq_ports 9998 0 0 65535 65535 W).trans (show _ = Result.ok true W from rfl)
  have hgd := guard_ports
  have lt10 := HT.out.1
  go_region_held3 (fun w' => w'.cell? ⟨W1.heap.size, 6, none⟩ = some (.int .i64 0) ∧ w'.cell? ⟨W1.heap.size, 7, none⟩ = some (.int .i64 65535))
    ((repeat' apply And.intro) <;> (first | (go_simp; done) | with_reducible assumption))
    ((go_at_call 149; refine (allPorts_any _).mono ?_; rintro e W3 ⟨rfl, hb3⟩; have t6 : W3.cell? ⟨W1.heap.size, 6, none⟩ = some (.int .i64 0) := (hb3.cell (p := ⟨W1.heap.size, 6, none⟩) (by (try simp); omega)).trans (by go_simp); have t7 : W3.cell? ⟨W1.heap.size, 7, none⟩ = some (.int .i64 65535) := (hb3.cell (p := ⟨W1.heap.size, 7, none⟩) (by (try simp); omega)).trans (by go_simp)))
  have hb30 : Below W2.heap.size W2 W3 := by first | exact hb3 | exact ⟨hb3.os, hb3.tape, hb3.output, hb3.size, hb3.block⟩
  have HG := Lib.hid (HG.out.below hb30)
  have HB := Lib.hid (HB.out.trans (hb30.mono HB.out.size))
  obtain ⟨g0, g1, g2, g3⟩ := HG.out.c4
  clear hb3 hb30 t6 t7
  go_wp2_with fail
  rw [rounds_succ]
  go_wp2_with fail
  refine (outside_any _ _ _ _).mono ?_
  rintro e w9 ⟨rfl, rfl⟩
  go_wp2_with fail
  refine (rising_nil _ _).mono ?_
  rintro e w9 ⟨rfl, rfl⟩
  go_wp2_with fail
  go_ret
  exact ⟨rfl, HB.out⟩

/-- The policy that is read. -/
structure PolAt (w : World) (gb cg sb cs db cd : Nat) : Prop where
  g : CA w gb [.slice (some ⟨sb, 0, none⟩) 1 cs, .slice (some ⟨db, 0, none⟩) 1 cd, .int .i64 0, .slice none 0 0]
  s : CA w sb starV
  d : CA w db targV
theorem PolAt.below {w w' : World} {gb cg sb cs db cd : Nat} (h : PolAt w gb cg sb cs db cd) (hb : Below w.heap.size w w') : PolAt w' gb cg sb cs db cd := ⟨h.g.below hb, h.s.below hb, h.d.below hb⟩
set_option maxRecDepth 100000 in
set_option maxHeartbeats 2000000 in
theorem checkPolicy_one (gb cg sb cs db cd : Nat) (w : World) (h : PolAt w gb cg sb cs db cd) :
    Calls Tryz.prog 51 #[.agg #[.slice none 0 0, .slice none 0 0, .slice (some ⟨gb, 0, none⟩) 1 cg, .slice none 0 0]] w fun e w' => e = .returned (.int .i64 0) ∧ Below w.heap.size w w' := by
  have hp := CA.made w [.slice none 0 0, .slice none 0 0, .slice (some ⟨gb, 0, none⟩) 1 cg, .slice none 0 0] 72
  have HH := Lib.hid (h.below (below_alloc1 w (.cells #[.slice none 0 0, .slice none 0 0, .slice (some ⟨gb, 0, none⟩) 1 cg, .slice none 0 0] 72)))
  have HB := Lib.hid (below_alloc1 w (.cells #[.slice none 0 0, .slice none 0 0, .slice (some ⟨gb, 0, none⟩) 1 cg, .slice none 0 0] 72))
  have HP := Lib.hid hp
  obtain ⟨q0, q1, q2, q3⟩ := hp.c4
  clear hp h
  go_enter Tryz.func51, Tryz.ntmps51
  go_wp2_with fail
  generalize World.alloc w _ = W0 at *
  refine (groupsFault_nil _ _ _ W0).mono ?_
  rintro e W1 ⟨rfl, hb1⟩
  have HP := Lib.hid (HP.out.below hb1)
  have HH := Lib.hid (HH.out.below hb1)
  have HB := Lib.hid (HB.out.trans (hb1.mono HB.out.size))
  obtain ⟨q0, q1, q2, q3⟩ := HP.out.c4
  obtain ⟨g0, g1, g2, g3⟩ := HH.out.g.c4
  have lp := HP.out.1
  clear hb1
  go_wp2_with fail
  refine (hostsFault_nil _).mono ?_
  rintro e w9 ⟨rfl, rfl⟩
  go_wp2_with fail
  refine wp_loop_rounds 2 ?_
  rw [rounds_succ]
  go_wp2_with fail
  have hh := HH.out.below (below_alloc1 W1 (.cells #[.slice (some ⟨sb, 0, none⟩) 1 cs, .slice (some ⟨db, 0, none⟩) 1 cd, .int .i64 0, .slice none 0 0] 168))
  refine (grantFault_one _ _ _ _ sb cs db cd _ hh.s hh.d).mono ?_
  rintro e W2 ⟨rfl, hb2⟩
  have HP := Lib.hid ((HP.out.alloc _).below hb2)
  have HB := Lib.hid (((HB.out).alloc HB.out.size _).trans (hb2.mono (by have := HB.out.size; simp; omega)))
  obtain ⟨q0, q1, q2, q3⟩ := HP.out.c4
  clear hb2 hh g0 g1 g2 g3
  go_wp2_with fail
  rw [rounds_succ]
  go_wp2_with fail
  refine wp_loop_rounds 1 ?_
  rw [rounds_succ]
  go_wp2_with fail
  go_ret
  exact ⟨rfl, HB.out⟩
end Go.Proofs.YtpbcbgoenoolfaaGreatDoor
