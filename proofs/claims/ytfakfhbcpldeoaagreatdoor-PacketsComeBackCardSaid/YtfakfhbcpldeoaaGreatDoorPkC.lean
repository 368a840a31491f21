/- filter.CheckPacket at right packets. -/
import Derived.Test.YtfakfhbcpldeoaaGreatDoorPkB
import Derived.Test.YtfakfhbcpldeoaaGreatDoorChA
import Derived.Test.YtfakfhbcpldeoaaGreatDoorRgS
import Derived.Deep.Cut
namespace Go.Proofs.YtfakfhbcpldeoaaGreatDoor
open Go.RowKit Go.Hw Go.Shelf

theorem checkAddr_ok (six : Bool) (hi lo : Int) (w : World) (h : AdF six hi lo) : Calls Tryz.prog 34 #[.agg #[.bool six, .int .u64 hi, .int .u64 lo]] w fun e w' => e = .returned (.int .i64 0) ∧ Below w.heap.size w w' := by
  have := checkAddr_any six hi lo w h.1
  rw [show addrCode six hi lo = 0 from if_neg (fun c => by have := h.2.2.2.2 c.1; omega)] at this
  exact this
theorem idxA_0 (a0 a1 a2 b0 b1 b2 : Value) (w : World) : (Instr.index 86 (.agg #[a0, a1, a2, b0, b1, b2]) (.int .i64 0)).run Tryz.prog w = .ok (.agg #[a0, a1, a2]) w := by kernel_rfl
theorem idxA_1 (a0 a1 a2 b0 b1 b2 : Value) (w : World) : (Instr.index 86 (.agg #[a0, a1, a2, b0, b1, b2]) (.int .i64 1)).run Tryz.prog w = .ok (.agg #[b0, b1, b2]) w := by kernel_rfl
set_option maxRecDepth 100000 in
set_option maxHeartbeats 4000000 in
theorem checkPacket_any (p : Pk) (h : PkOk p) (w : World) : Calls Tryz.prog 16 #[.agg #[.bool p.f.s6, .int .u64 p.f.sh, .int .u64 p.f.sl, .bool p.f.t6, .int .u64 p.f.th, .int .u64 p.f.tl, .int .i64 p.hops, .int .i64 p.f.proto, .int .i64 p.f.fp, .int .i64 p.f.tp, .bool p.syn, .bool p.fin, .bool p.rst, .bool p.has, .int .i64 p.seq, .int .i64 p.ack, .bool p.reply, .int .i64 p.id, .slice p.pA p.pn p.pc]] w fun e w' => e = .returned (.int .i64 0) ∧ Below w.heap.size w w' := by
  have hun := unused_any p h
  obtain ⟨⟨proto, z6, sh, sl, s6, th, tl, fp, tp⟩, hops, syn, fin, rst, has, seq, ack, reply, id, pA, pn, pc⟩ := p
  have h1 := h.fl.six
  have h2 := h.known
  have h3 := h.icmp
  have h4 := h.fl.src
  have h5 := h.fl.dst
  have h6 := h.fl.fp
  have h7 := h.fl.tp
  have h8 := h.hops
  have h9 := h.seq
  have ha := h.ack
  have hb := h.id
  have hc := h.acked
  have hp := h.pay
  dsimp only at h1 h2 h3 h4 h5 h6 h7 h8 h9 ha hb hc hp hun ⊢
  subst h1
  have HC := Lib.hid (show CA (w.alloc (.cells #[.bool s6, .int .u64 sh, .int .u64 sl, .bool s6, .int .u64 th, .int .u64 tl, .int .i64 hops, .int .i64 proto, .int .i64 fp, .int .i64 tp, .bool syn, .bool fin, .bool rst, .bool has, .int .i64 seq, .int .i64 ack, .bool reply, .int .i64 id, .slice pA pn pc] 31)) w.heap.size [.bool s6, .int .u64 sh, .int .u64 sl, .bool s6, .int .u64 th, .int .u64 tl, .int .i64 hops, .int .i64 proto, .int .i64 fp, .int .i64 tp, .bool syn, .bool fin, .bool rst, .bool has, .int .i64 seq, .int .i64 ack, .bool reply, .int .i64 id, .slice pA pn pc] from CA.made w _ _)
  have HB := Lib.hid (below_alloc1 w (.cells #[.bool s6, .int .u64 sh, .int .u64 sl, .bool s6, .int .u64 th, .int .u64 tl, .int .i64 hops, .int .i64 proto, .int .i64 fp, .int .i64 tp, .bool syn, .bool fin, .bool rst, .bool has, .int .i64 seq, .int .i64 ack, .bool reply, .int .i64 id, .slice pA pn pc] 31))
  have HH := Lib.hid (heap_alloc_new w (.cells #[.bool s6, .int .u64 sh, .int .u64 sl, .bool s6, .int .u64 th, .int .u64 tl, .int .i64 hops, .int .i64 proto, .int .i64 fp, .int .i64 tp, .bool syn, .bool fin, .bool rst, .bool has, .int .i64 seq, .int .i64 ack, .bool reply, .int .i64 id, .slice pA pn pc] 31))
  have hi0 := idxA_0
  have hi1 := idxA_1
  have hpl : decide ((1400 : Int) < (pn : Int)) = false := by simp; omega
  have c0 := HC.out.2 0 _ rfl
  have c1 := HC.out.2 1 _ rfl
  have c2 := HC.out.2 2 _ rfl
  have c3 := HC.out.2 3 _ rfl
  have c4 := HC.out.2 4 _ rfl
  have c5 := HC.out.2 5 _ rfl
  have c3' := c3
  have H3 := Lib.hid h3
  have H4 := Lib.hid h4
  have H5 := Lib.hid h5
  clear h h3 h4 h5
  go_enter Tryz.func16, Tryz.ntmps16
  go_wp2_with fail
  generalize World.alloc w _ = W0 at *
  refine wp_loop_rounds 3 ?_
  have HA := Lib.hid (below_alloc1 W0 (.cells #[.bool s6, .int .u64 sh, .int .u64 sl] 28))
  rw [rounds_succ]
  go_wp2_with fail
  refine (checkAddr_ok s6 sh sl _ H4.out).mono ?_
  rintro e W1 ⟨rfl, hb1⟩
  have HH := Lib.hid ((hb1.block _ (lt_of_block ((HA.out.block _ (lt_of_block HH.out)).trans HH.out))).trans ((HA.out.block _ (lt_of_block HH.out)).trans HH.out))
  have HC := Lib.hid ((HC.out.below HA.out).below hb1)
  have HB := Lib.hid ((HB.out.trans (HA.out.mono HB.out.size)).trans (hb1.mono (Nat.le_trans HB.out.size HA.out.size)))
  clear hb1 HA c0 c1 c2 c3 c4 c5 c3'
  go_wp2_with fail
  have HA := Lib.hid (below_alloc1 W1 (.cells #[.bool s6, .int .u64 th, .int .u64 tl] 28))
  rw [rounds_succ]
  go_wp2_with fail
  refine (checkAddr_ok s6 th tl _ H5.out).mono ?_
  rintro e W2 ⟨rfl, hb1⟩
  have HH := Lib.hid ((hb1.block _ (lt_of_block ((HA.out.block _ (lt_of_block HH.out)).trans HH.out))).trans ((HA.out.block _ (lt_of_block HH.out)).trans HH.out))
  have HC := Lib.hid ((HC.out.below HA.out).below hb1)
  have HB := Lib.hid ((HB.out.trans (HA.out.mono HB.out.size)).trans (hb1.mono (Nat.le_trans HB.out.size HA.out.size)))
  clear hb1 HA
  go_wp2_with fail
  have c0 := HC.out.2 0 _ rfl
  have c1 := HC.out.2 1 _ rfl
  have c2 := HC.out.2 2 _ rfl
  have c3 := HC.out.2 3 _ rfl
  have c4 := HC.out.2 4 _ rfl
  have c5 := HC.out.2 5 _ rfl
  have c6 := HC.out.2 6 _ rfl
  have c7 := HC.out.2 7 _ rfl
  have c8 := HC.out.2 8 _ rfl
  have c9 := HC.out.2 9 _ rfl
  have c10 := HC.out.2 10 _ rfl
  have c11 := HC.out.2 11 _ rfl
  have c12 := HC.out.2 12 _ rfl
  have c13 := HC.out.2 13 _ rfl
  have c14 := HC.out.2 14 _ rfl
  have c15 := HC.out.2 15 _ rfl
  have c16 := HC.out.2 16 _ rfl
  have c17 := HC.out.2 17 _ rfl
  have c18 := HC.out.2 18 _ rfl
  have lC := HC.out.1
  rw [rounds_succ]
  go_wp2_with fail
  refine (outside_in hops 0 255 W2 h8.1 h8.2).mono ?_
  rintro e W3 ⟨rfl, rfl⟩
  go_wp2_with fail
  refine (isKnown_any proto W2 h2).mono ?_
  rintro e W3 ⟨rfl, rfl⟩
  go_wp2_with fail
  refine (outside_in fp 0 65535 W2 h6.1 h6.2).mono ?_
  rintro e W3 ⟨rfl, rfl⟩
  go_wp2_with fail
  refine (outside_in tp 0 65535 W2 h7.1 h7.2).mono ?_
  rintro e W3 ⟨rfl, rfl⟩
  go_wp2_with fail
  refine (outside_in seq 0 4294967295 W2 h9.1 h9.2).mono ?_
  rintro e W3 ⟨rfl, rfl⟩
  go_wp2_with fail
  refine (outside_in ack 0 4294967295 W2 ha.1 ha.2).mono ?_
  rintro e W3 ⟨rfl, rfl⟩
  go_wp2_with fail
  refine (outside_in id 0 65535 W2 hb.1 hb.2).mono ?_
  rintro e W3 ⟨rfl, rfl⟩
  by_cases hI : proto = 1
  · have hs : decide ((65535 : Int) < seq) = false := by have := (H3.out hI).2.2; simp; omega
    have hq : (proto == 1) = true := by simp [hI]
    clear hI
    go_upto_region 19 with (fail)
    go_step
    go_step
    refine load_step rfl HH.out (by kernel_rfl) (by kernel_rfl) ?_
    go_wp2_with fail
    refine (hun W2).mono ?_
    rintro e W3 ⟨rfl, hb3⟩
    have HC := Lib.hid (HC.out.below hb3)
    have HB := Lib.hid (HB.out.trans (hb3.mono HB.out.size))
    clear hb3 c0 c1 c2 c3 c4 c5 c6 c7 c8 c9 c10 c11 c12 c13 c14 c15 c16 c17 c18
    have c13 := HC.out.2 13 _ rfl
    have c15 := HC.out.2 15 _ rfl
    have c18 := HC.out.2 18 _ rfl
    by_cases hk : ack = 0
    · have e0 : (ack != 0) = false := by simp [hk]
      have e1 : (ack == 0) = true := by simp [hk]
      clear hk
      go_wp2_with fail
      go_ret
      exact ⟨rfl, HB.out⟩
    · have e0 : (ack != 0) = true := by simpa using hk
      have e1 : (ack == 0) = false := by simpa using hk
      rw [hc hk] at c13
      clear hk hc
      go_wp2_with fail
      go_ret
      exact ⟨rfl, HB.out⟩
  · have hq : (proto == 1) = false := by simpa using hI
    clear hI
    go_upto_region 19 with (fail)
    go_step
    go_step
    refine load_step rfl HH.out (by kernel_rfl) (by kernel_rfl) ?_
    go_wp2_with fail
    refine (hun W2).mono ?_
    rintro e W3 ⟨rfl, hb3⟩
    have HC := Lib.hid (HC.out.below hb3)
    have HB := Lib.hid (HB.out.trans (hb3.mono HB.out.size))
    clear hb3 c0 c1 c2 c3 c4 c5 c6 c7 c8 c9 c10 c11 c12 c13 c14 c15 c16 c17 c18
    have c13 := HC.out.2 13 _ rfl
    have c15 := HC.out.2 15 _ rfl
    have c18 := HC.out.2 18 _ rfl
    by_cases hk : ack = 0
    · have e0 : (ack != 0) = false := by simp [hk]
      have e1 : (ack == 0) = true := by simp [hk]
      clear hk
      go_wp2_with fail
      go_ret
      exact ⟨rfl, HB.out⟩
    · have e0 : (ack != 0) = true := by simpa using hk
      have e1 : (ack == 0) = false := by simpa using hk
      rw [hc hk] at c13
      clear hk hc
      go_wp2_with fail
      go_ret
      exact ⟨rfl, HB.out⟩
end Go.Proofs.YtfakfhbcpldeoaaGreatDoor
