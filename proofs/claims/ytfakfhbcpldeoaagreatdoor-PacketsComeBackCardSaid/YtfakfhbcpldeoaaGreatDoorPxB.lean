/- Packets as bytes: small functions. -/
import Derived.Test.YtfakfhbcpldeoaaGreatDoorPxA
import Derived.Test.YtfakfhbcpldeoaaGreatDoorPkD
import Derived.Test.YtfakfhbcpldeoaaGreatDoorChA
namespace Go.Proofs.YtfakfhbcpldeoaaGreatDoor
open Go.RowKit Go.Hw

theorem sumAt_any (proto : Int) (w : World) : Calls Tryz.prog 22 #[.int .i64 proto] w fun e w' => e = .returned (.int .i64 (atP proto)) ∧ w = w' := by
  by_cases h6 : proto = 6
  · subst h6
    go_enter Tryz.func22, Tryz.ntmps22
    go_wp2_with fail
    go_ret
    exact ⟨rfl, rfl⟩
  · by_cases h17 : proto = 17
    · subst h17
      go_enter Tryz.func22, Tryz.ntmps22
      go_wp2_with fail
      go_ret
      exact ⟨rfl, rfl⟩
    · have e6 : (proto == 6) = false := by simpa using h6
      have e17 : (proto == 17) = false := by simpa using h17
      have HP := Lib.hid (show atP proto = 2 from by unfold atP; rw [if_neg h6, if_neg h17])
      clear h6 h17
      go_enter Tryz.func22, Tryz.ntmps22
      go_wp2_with fail
      go_ret
      exact ⟨by rw [HP.out]; rfl, rfl⟩
set_option maxHeartbeats 2000000 in
theorem wire_any (p : Pk) (w : World) : Calls Tryz.prog 38 #[.agg #[.bool p.f.s6, .int .u64 p.f.sh, .int .u64 p.f.sl, .bool p.f.t6, .int .u64 p.f.th, .int .u64 p.f.tl, .int .i64 p.hops, .int .i64 p.f.proto, .int .i64 p.f.fp, .int .i64 p.f.tp, .bool p.syn, .bool p.fin, .bool p.rst, .bool p.has, .int .i64 p.seq, .int .i64 p.ack, .bool p.reply, .int .i64 p.id, .slice p.pA p.pn p.pc]] w fun e w' => e = .returned (.int .i64 (wireP p)) ∧ Below w.heap.size w w' := by
  obtain ⟨⟨proto, s6, sh, sl, t6, th, tl, fp, tp⟩, hops, syn, fin, rst, has, seq, ack, reply, id, pA, pn, pc⟩ := p
  dsimp only
  have HB := fun cs T => Lib.hid (bl_alloc w (.cells cs T))
  cases s6
  · go_enter Tryz.func38, Tryz.ntmps38
    go_wp2_with fail
    go_ret
    exact ⟨rfl, (HB _ _).out⟩
  · by_cases h1 : proto = 1
    · subst h1
      go_enter Tryz.func38, Tryz.ntmps38
      go_wp2_with fail
      go_ret
      exact ⟨rfl, (HB _ _).out⟩
    · have e1 : (proto == 1) = false := by simpa using h1
      have HW : ∀ q : Pk, q.f.s6 = true → q.f.proto = proto → Hid (wireP q = proto) := fun q a b => Lib.hid (by unfold wireP; rw [a, b, e1]; rfl)
      clear h1
      go_enter Tryz.func38, Tryz.ntmps38
      go_wp2_with fail
      go_ret
      exact ⟨by rw [(HW _ rfl rfl).out]; rfl, (HB _ _).out⟩
set_option maxHeartbeats 2000000 in
theorem kindOf_any (p : Pk) (w : World) : Calls Tryz.prog 44 #[.agg #[.bool p.f.s6, .int .u64 p.f.sh, .int .u64 p.f.sl, .bool p.f.t6, .int .u64 p.f.th, .int .u64 p.f.tl, .int .i64 p.hops, .int .i64 p.f.proto, .int .i64 p.f.fp, .int .i64 p.f.tp, .bool p.syn, .bool p.fin, .bool p.rst, .bool p.has, .int .i64 p.seq, .int .i64 p.ack, .bool p.reply, .int .i64 p.id, .slice p.pA p.pn p.pc]] w fun e w' => e = .returned (.int .u8 ((kindP p).toNat : Nat)) ∧ Below w.heap.size w w' := by
  obtain ⟨⟨proto, s6, sh, sl, t6, th, tl, fp, tp⟩, hops, syn, fin, rst, has, seq, ack, reply, id, pA, pn, pc⟩ := p
  dsimp only
  have HB := fun cs T => Lib.hid (bl_alloc w (.cells cs T))
  cases s6 <;> cases reply <;> (
    go_enter Tryz.func44, Tryz.ntmps44
    go_wp2_with fail
    go_ret
    exact ⟨rfl, (HB _ _).out⟩)
set_option maxRecDepth 20000 in
set_option maxHeartbeats 4000000 in
theorem flags_any (p : Pk) (w : World) : Calls Tryz.prog 43 #[.agg #[.bool p.f.s6, .int .u64 p.f.sh, .int .u64 p.f.sl, .bool p.f.t6, .int .u64 p.f.th, .int .u64 p.f.tl, .int .i64 p.hops, .int .i64 p.f.proto, .int .i64 p.f.fp, .int .i64 p.f.tp, .bool p.syn, .bool p.fin, .bool p.rst, .bool p.has, .int .i64 p.seq, .int .i64 p.ack, .bool p.reply, .int .i64 p.id, .slice p.pA p.pn p.pc]] w fun e w' => e = .returned (.int .u8 ((flagsP p).toNat : Nat)) ∧ Below w.heap.size w w' := by
  obtain ⟨⟨proto, s6, sh, sl, t6, th, tl, fp, tp⟩, hops, syn, fin, rst, has, seq, ack, reply, id, pA, pn, pc⟩ := p
  dsimp only
  have HB := fun cs T cs' T' => Lib.hid (bl_al (o := .cells cs' T') (bl_alloc w (.cells cs T)))
  cases fin <;> cases syn <;> cases rst <;> cases has <;> (
    go_enter Tryz.func43, Tryz.ntmps43
    go_wp2_with fail
    refine wp_loop_rounds 6 ?_
    rw [rounds_succ]
    go_wp2_with fail
    rw [rounds_succ]
    go_wp2_with fail
    rw [rounds_succ]
    go_wp2_with fail
    rw [rounds_succ]
    go_wp2_with fail
    rw [rounds_succ]
    go_wp2_with fail
    rw [rounds_succ]
    go_wp2_with fail
    go_ret
    exact ⟨rfl, (HB _ _ _ _).out⟩)
end Go.Proofs.YtfakfhbcpldeoaaGreatDoor
