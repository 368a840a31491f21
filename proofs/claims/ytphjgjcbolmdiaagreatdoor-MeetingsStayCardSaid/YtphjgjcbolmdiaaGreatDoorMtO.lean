/- MeetingsStay: the walk. -/
import Derived.Test.YtphjgjcbolmdiaaGreatDoorMtM
import Derived.Test.YtphjgjcbolmdiaaGreatDoorNtS
import Derived.Test.YtphjgjcbolmdiaaGreatDoorReady
namespace Go.Proofs.YtphjgjcbolmdiaaGreatDoor
open Go.RowKit Go.Hw

set_option maxRecDepth 100000 in
set_option maxHeartbeats 4000000 in
theorem meetings_any (A : Option Addr) (cap : Nat) (l : List Int) (w : World) (hA : ∀ i, i < l.length → ∃ g off, A = some ⟨g, off, none⟩ ∧ g < w.heap.size ∧ w.cell? ⟨g, off + i, none⟩ = some (.int .i64 (l.getD i 0)))
    (hfits : ∀ i, -9223372036854775808 ≤ l.getD i 0 ∧ l.getD i 0 ≤ 9223372036854775807) (hlong : l.length ≤ 17592186044416) :
    Calls Tryz.prog 4 #[.slice A l.length cap] w fun e w' => e = .returned (.bool true) ∧ Below w.heap.size w w' := by
  have hs0 : Str (w.alloc (.cells #[.slice A l.length cap, .int .i64 0] 25)) w.heap.size A cap l 0 := {
    cell := heap_alloc_new w _
    ints := fun i hi => by
      obtain ⟨g, off, h1, h2, h3⟩ := hA i hi
      exact ⟨g, off, h1, h2, by rw [World.cell?_alloc_lt _ _ _ h2]; exact h3⟩
    fits := hfits
    long := hlong
    low := by omega
    high := by omega }
  have hB0 : Below w.heap.size w (w.alloc (.cells #[.slice A l.length cap, .int .i64 0] 25)) := (Below.refl _ _).alloc (Nat.le_refl _) _
  have HS := Lib.hid hs0
  have HB := Lib.hid hB0
  clear hs0 hB0 hA hfits
  go_enter Tryz.func4, Tryz.ntmps4
  go_wp2_with fail
  generalize hW : World.alloc _ _ = W1 at HS HB ⊢
  clear hW
  refine Calls.mono (nat_any w.heap.size A cap l 0 W1 HS.out (by omega)) ?_
  rintro _ W2 ⟨a, rfl, ha0, at2, ha1, ha2, hs2, hg2⟩
  have HB2 := Lib.hid (HB.out.grown hg2 HB.out.size (fun j e => by injection e with e; omega))
  clear HS HB hg2
  go_wp2_with fail
  refine Calls.mono (nat_any w.heap.size A cap l at2 W2 hs2 (by omega)) ?_
  rintro _ W3 ⟨b, rfl, hb0, at3, hb1, hb2, hs3, hg3⟩
  have HB3 := Lib.hid (HB2.out.grown hg3 HB2.out.size (fun j e => by injection e with e; omega))
  clear hg3 hs2 HB2 hs3
  go_wp2_with fail
  generalize hW : World.alloc _ _ = W4
  obtain ⟨f1, f2, fb⟩ := two _ _ _ _ hW
  have HB4 := Lib.hid (HB3.out.trans (fb.mono HB3.out.size))
  have HN4 := Lib.hid (show W4.heap[W3.heap.size]? = some (.cells #[.int .i64 a.maps, .int .i64 a.lets, .int .i64 a.timeout, .int .i64 a.first, .int .i64 a.ports, .bool a.six, .int .u64 a.hi, .int .u64 a.lo] 30 (0, 0)) from f1)
  have HN5 := Lib.hid (show W4.heap[W3.heap.size + 1]? = some (.cells #[.int .i64 b.maps, .int .i64 b.lets, .int .i64 b.timeout, .int .i64 b.first, .int .i64 b.ports, .bool b.six, .int .u64 b.hi, .int .u64 b.lo] 30 (0, 0)) from f2)
  clear hW f1 f2 fb HB3
  generalize W3.heap.size = N4 at *
  refine Calls.mono (canFault_any a b W4 ha0 hb0) ?_
  rintro _ W5 ⟨c, rfl, hbc, himp⟩
  have HB5 := Lib.hid (HB4.out.trans (hbc.mono HB4.out.size))
  have HN6 := Lib.hid ((hbc.block N4 (lt_of_block HN4.out)).trans HN4.out)
  have HN7 := Lib.hid ((hbc.block (N4 + 1) (lt_of_block HN5.out)).trans HN5.out)
  clear hbc HB4 HN4 HN5
  by_cases hc : c = 0
  rotate_left
  · have hcc : (c != 0) = true := by simpa using hc
    clear himp
    go_wp2_with fail
    refine Calls.mono (ready_true W5) ?_
    rintro _ W6 ⟨rfl, hb⟩
    have HB6 := Lib.hid (HB5.out.trans (hb.mono HB5.out.size))
    clear hb
    go_wp2_with fail
    go_ret
    exact ⟨rfl, HB6.out⟩
  obtain ⟨hca, hcb, hso, hsa, hsb⟩ := himp hc
  subst hc
  have hlat := can_later a b
  have hbd2 := heard_bound a b 2
  have hez := can_easy (nat_fine hca).1 (nat_fine hcb).1
  have hcan2 := can_any a b 2 (by omega) W5 hca hcb ha0 hb0 hso hsa hsb
  have hcan5 := fun W => can_any a b 5 (by omega) W hca hcb ha0 hb0 hso hsa hsb
  generalize (canP a b 2).1.heard = p at *
  generalize (canP a b 2).2.heard = q at *
  generalize (canP a b 5).1.heard = p5 at *
  generalize (canP a b 5).2.heard = q5 at *
  have HL := Lib.hid hlat
  have HBD := Lib.hid hbd2
  have HEZ := Lib.hid hez
  clear hlat hbd2 hez hca hcb hso hsa hsb
  obtain ⟨⟨a0, a1, a2, a3, a4, a5, a6, a7⟩, -⟩ := res8 HN6.out
  obtain ⟨⟨b0, b1, b2, b3, b4, b5, b6, b7⟩, -⟩ := res8 HN7.out
  go_wp2_with fail
  refine hcan2.mono ?_
  rintro _ W6 ⟨rfl, hb6⟩
  have HB6 := Lib.hid (HB5.out.trans (hb6.mono HB5.out.size))
  have HN8 := Lib.hid ((hb6.block N4 (lt_of_block HN6.out)).trans HN6.out)
  have HN9 := Lib.hid ((hb6.block (N4 + 1) (lt_of_block HN7.out)).trans HN7.out)
  clear hcan2 hb6 HB5 HN6 HN7 a0 a1 a2 a3 a4 a5 a6 a7 b0 b1 b2 b3 b4 b5 b6 b7
  obtain ⟨⟨a0, a1, a2, a3, a4, a5, a6, a7⟩, -⟩ := res8 HN8.out
  obtain ⟨⟨b0, b1, b2, b3, b4, b5, b6, b7⟩, -⟩ := res8 HN9.out
  have l4 := lt_of_block HN8.out
  have l5 := lt_of_block HN9.out
  go_wp2_with fail
  refine (hcan5 _).mono ?_
  rintro _ W7 ⟨rfl, hb7⟩
  have hx6 := (hb7.block W6.heap.size (by simp)).trans (heap_alloc_new W6 _)
  have HNA := Lib.hid ((hb7.block N4 (by simp; omega)).trans ((heap_alloc_old W6 _ l4).trans HN8.out))
  have HNB := Lib.hid ((hb7.block (N4 + 1) (by simp; omega)).trans ((heap_alloc_old W6 _ l5).trans HN9.out))
  have HB7 := Lib.hid (HB6.out.trans ((below_box (Below.refl _ W6) (Nat.le_refl _) hb7).mono HB6.out.size))
  have hlt6 := lt_of_block hx6
  clear hb7 HB6 HN8 HN9 a0 a1 a2 a3 a4 a5 a6 a7 b0 b1 b2 b3 b4 b5 b6 b7 l4 l5 himp hcan5
  generalize W6.heap.size = B6 at *
  go_upto_region 7 with (fail)
  generalize hW : World.alloc _ _ = W8
  have hx8 : W8.heap[W7.heap.size]? = some (.cells #[.int .i64 p5, .int .i64 q5] 55 (0, 0)) := by rw [← hW]; exact heap_alloc_new W7 _
  have hx6' : W8.heap[B6]? = some (.cells #[.int .i64 p, .int .i64 q] 55 (0, 0)) := by rw [← hW]; exact (heap_alloc_old W7 _ hlt6).trans hx6
  have HNA8 := Lib.hid (show W8.heap[N4]? = some (.cells #[.int .i64 a.maps, .int .i64 a.lets, .int .i64 a.timeout, .int .i64 a.first, .int .i64 a.ports, .bool a.six, .int .u64 a.hi, .int .u64 a.lo] 30 (0, 0)) from by rw [← hW]; exact (heap_alloc_old W7 _ (lt_of_block HNA.out)).trans HNA.out)
  have HNB8 := Lib.hid (show W8.heap[N4 + 1]? = some (.cells #[.int .i64 b.maps, .int .i64 b.lets, .int .i64 b.timeout, .int .i64 b.first, .int .i64 b.ports, .bool b.six, .int .u64 b.hi, .int .u64 b.lo] 30 (0, 0)) from by rw [← hW]; exact (heap_alloc_old W7 _ (lt_of_block HNB.out)).trans HNB.out)
  have HB8 := Lib.hid (show Below w.heap.size w W8 from by rw [← hW]; exact HB7.out.alloc HB7.out.size _)
  obtain ⟨⟨p0, p1⟩, -⟩ := res2 hx6'
  obtain ⟨⟨r0, r1⟩, -⟩ := res2 hx8
  clear hW hx6 hx6' hx8 HNA HNB HB7 hlt6
  generalize W7.heap.size = B8 at *
  go_cut [79] from 35 (fun v79 wc => v79 = .bool false ∧ wc = W8)
  case first =>
    obtain ⟨⟨lp1, lp2⟩, lq1, lq2⟩ := HL.out
    obtain ⟨⟨dp0, dp1⟩, dq0, dq1⟩ := HBD.out
    have cp : (p ≠ 0 ∧ p5 = p) ∨ (p = 0 ∧ p5 = 0) ∨ (p = 0 ∧ 3 ≤ p5) := by
      by_cases h : p = 0
      · rcases lp2 h with e | e
        · exact .inr (.inl ⟨h, e⟩)
        · exact .inr (.inr ⟨h, e⟩)
      · exact .inl ⟨h, lp1 h⟩
    have cq : (q ≠ 0 ∧ q5 = q) ∨ (q = 0 ∧ (q5 = 0 ∨ 3 ≤ q5)) := by
      by_cases h : q = 0
      · exact .inr ⟨h, lq2 h⟩
      · exact .inl ⟨h, lq1 h⟩
    clear lp1 lp2 lq1 lq2
    rcases cp with ⟨h1, rfl⟩ | ⟨rfl, rfl⟩ | ⟨rfl, h1⟩
    all_goals rcases cq with ⟨h2, rfl⟩ | ⟨rfl, h2⟩
    all_goals (
      (try have e1 : decide (p5 > 0) = true := decide_eq_true (by omega))
      (try have e1' : (p5 == 0) = false := beq_eq_false_iff_ne.2 h1)
      (try have e2 : decide (q5 > 0) = true := decide_eq_true (by omega))
      (try have e3 : decide (p5 ≤ 2) = false := decide_eq_false (by omega))
      (try clear h1)
      (try clear h2)
      clear dp0 dp1 dq0 dq1
      go_wp2_with fail
      go_meet
      exact ⟨rfl, rfl⟩)
  case rest =>
    obtain ⟨rfl, rfl⟩ := hcut
    obtain ⟨⟨a0, a1, a2, a3, a4, a5, a6, a7⟩, -⟩ := res8 HNA8.out
    obtain ⟨⟨b0, b1, b2, b3, b4, b5, b6, b7⟩, -⟩ := res8 HNB8.out
    by_cases m1 : a.maps = 1
    rotate_left
    · have e1 : (a.maps == 1) = false := beq_eq_false_iff_ne.2 m1
      clear m1
      go_wp2_with fail
      refine Calls.mono (ready_true _) ?_
      rintro _ W9 ⟨rfl, hb9⟩
      have HB9 := Lib.hid (HB8.out.trans (hb9.mono HB8.out.size))
      clear hb9
      go_wp2_with fail
      go_ret
      exact ⟨rfl, HB9.out⟩
    have e1 : (a.maps == 1) = true := by rw [m1]; rfl
    by_cases m2 : b.maps = 1
    rotate_left
    · have e2 : (b.maps == 1) = false := beq_eq_false_iff_ne.2 m2
      clear m1 m2
      go_wp2_with fail
      refine Calls.mono (ready_true _) ?_
      rintro _ W9 ⟨rfl, hb9⟩
      have HB9 := Lib.hid (HB8.out.trans (hb9.mono HB8.out.size))
      clear hb9
      go_wp2_with fail
      go_ret
      exact ⟨rfl, HB9.out⟩
    have e2 : (b.maps == 1) = true := by rw [m2]; rfl
    by_cases m3 : 1 < a.timeout
    rotate_left
    · have e3 : decide (a.timeout > 1) = false := decide_eq_false (by omega)
      clear m1 m2 m3
      go_wp2_with fail
      refine Calls.mono (ready_true _) ?_
      rintro _ W9 ⟨rfl, hb9⟩
      have HB9 := Lib.hid (HB8.out.trans (hb9.mono HB8.out.size))
      clear hb9
      go_wp2_with fail
      go_ret
      exact ⟨rfl, HB9.out⟩
    have e3 : decide (a.timeout > 1) = true := decide_eq_true (by omega)
    by_cases m4 : 1 < b.timeout
    rotate_left
    · have e4 : decide (b.timeout > 1) = false := decide_eq_false (by omega)
      clear m1 m2 m3 m4
      go_wp2_with fail
      refine Calls.mono (ready_true _) ?_
      rintro _ W9 ⟨rfl, hb9⟩
      have HB9 := Lib.hid (HB8.out.trans (hb9.mono HB8.out.size))
      clear hb9
      go_wp2_with fail
      go_ret
      exact ⟨rfl, HB9.out⟩
    · have e4 : decide (b.timeout > 1) = true := decide_eq_true (by omega)
      obtain ⟨hp, hq⟩ := HEZ.out m1 m2 m3 m4
      have e5 : decide (p > 0) = true := decide_eq_true hp
      have e6 : decide (q > 0) = true := decide_eq_true hq
      clear m1 m2 m3 m4 hp hq
      go_wp2_with fail
      refine Calls.mono (ready_true _) ?_
      rintro _ W9 ⟨rfl, hb9⟩
      have HB9 := Lib.hid (HB8.out.trans (hb9.mono HB8.out.size))
      clear hb9
      go_wp2_with fail
      go_ret
      exact ⟨rfl, HB9.out⟩
end Go.Proofs.YtphjgjcbolmdiaaGreatDoor
