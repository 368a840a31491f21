/- filter.CheckPacket at right packets. -/
import Derived.Test.YtfakfhbcpldeoaaGreatDoorPkA
import Derived.Test.YtfakfhbcpldeoaaGreatDoorKey
import Derived.Test.YtfakfhbcpldeoaaGreatDoorRyC
namespace Go.Proofs.YtfakfhbcpldeoaaGreatDoor
open Go.RowKit Go.Hw Go.Shelf

theorem outside_in (n lo hi : Int) (w : World) (h1 : lo ≤ n) (h2 : n ≤ hi) : Calls Tryz.prog 35 #[.int .i64 n, .int .i64 lo, .int .i64 hi] w fun e w' => e = .returned (.bool false) ∧ w = w' := by
  refine (outside_any n lo hi w).mono ?_
  rintro e w' ⟨rfl, h⟩
  refine ⟨?_, h⟩
  rw [show (decide (n < lo) || decide (hi < n)) = false from by simp; omega]
theorem hasPorts_any (n : Int) (w : World) : Calls Tryz.prog 42 #[.int .i64 n] w fun e w' => e = .returned (.bool (n == 6 || n == 17)) ∧ w = w' := by
  go_enter Tryz.func42, Tryz.ntmps42
  go_wp2_with fail
  all_goals (go_ret; simp_all)
theorem isKnown_any (n : Int) (w : World) (h : n = 6 ∨ n = 17 ∨ n = 1) : Calls Tryz.prog 20 #[.int .i64 n] w fun e w' => e = .returned (.bool true) ∧ w = w' := by
  rcases h with rfl | rfl | rfl
  · have hp := hasPorts_any 6 w
    rw [show ((6 : Int) == 6 || (6 : Int) == 17) = true from rfl] at hp
    go_enter Tryz.func20, Tryz.ntmps20
    go_wp2_with fail
    refine hp.mono ?_
    rintro e w1 ⟨rfl, rfl⟩
    go_wp2_with fail
    go_ret
    exact ⟨rfl, rfl⟩
  · have hp := hasPorts_any 17 w
    rw [show ((17 : Int) == 6 || (17 : Int) == 17) = true from rfl] at hp
    go_enter Tryz.func20, Tryz.ntmps20
    go_wp2_with fail
    refine hp.mono ?_
    rintro e w1 ⟨rfl, rfl⟩
    go_wp2_with fail
    go_ret
    exact ⟨rfl, rfl⟩
  · go_enter Tryz.func20, Tryz.ntmps20
    go_wp2_with fail
    go_ret
    exact ⟨rfl, rfl⟩
set_option maxRecDepth 100000 in
set_option maxHeartbeats 1000000 in
theorem unused_tcp (s6 : Bool) (sh : Int) (sl : Int) (th : Int) (tl : Int) (hops : Int) (fp : Int) (tp : Int) (syn : Bool) (fin : Bool) (rst : Bool) (has : Bool) (seq : Int) (ack : Int) (pA : Option Addr) (pn : Nat) (pc : Nat) (w : World) : Calls Tryz.prog 36 #[.agg #[.bool s6, .int .u64 sh, .int .u64 sl, .bool s6, .int .u64 th, .int .u64 tl, .int .i64 hops, .int .i64 6, .int .i64 fp, .int .i64 tp, .bool syn, .bool fin, .bool rst, .bool has, .int .i64 seq, .int .i64 ack, .bool false, .int .i64 0, .slice pA pn pc]] w fun e w' => e = .returned (.bool false) ∧ Below w.heap.size w w' := by
  have hC := CA.made w [.bool s6, .int .u64 sh, .int .u64 sl, .bool s6, .int .u64 th, .int .u64 tl, .int .i64 hops, .int .i64 6, .int .i64 fp, .int .i64 tp, .bool syn, .bool fin, .bool rst, .bool has, .int .i64 seq, .int .i64 ack, .bool false, .int .i64 0, .slice pA pn pc] 31
  have HB := Lib.hid (below_alloc1 w (.cells #[.bool s6, .int .u64 sh, .int .u64 sl, .bool s6, .int .u64 th, .int .u64 tl, .int .i64 hops, .int .i64 6, .int .i64 fp, .int .i64 tp, .bool syn, .bool fin, .bool rst, .bool has, .int .i64 seq, .int .i64 ack, .bool false, .int .i64 0, .slice pA pn pc] 31))
  have c7 := hC.2 7 _ rfl
  have c8 := hC.2 8 _ rfl
  have c9 := hC.2 9 _ rfl
  have c10 := hC.2 10 _ rfl
  have c11 := hC.2 11 _ rfl
  have c12 := hC.2 12 _ rfl
  have c13 := hC.2 13 _ rfl
  have c14 := hC.2 14 _ rfl
  have c15 := hC.2 15 _ rfl
  have c16 := hC.2 16 _ rfl
  have c17 := hC.2 17 _ rfl
  clear hC
  go_enter Tryz.func36, Tryz.ntmps36
  go_wp2_with fail
  go_quiet (fail)
  go_wp2_with fail
  go_ret
  exact ⟨rfl, ⟨HB.out.os, HB.out.tape, HB.out.output, HB.out.size, HB.out.block⟩⟩
set_option maxRecDepth 100000 in
set_option maxHeartbeats 1000000 in
theorem unused_udp (s6 : Bool) (sh : Int) (sl : Int) (th : Int) (tl : Int) (hops : Int) (fp : Int) (tp : Int) (pA : Option Addr) (pn : Nat) (pc : Nat) (w : World) : Calls Tryz.prog 36 #[.agg #[.bool s6, .int .u64 sh, .int .u64 sl, .bool s6, .int .u64 th, .int .u64 tl, .int .i64 hops, .int .i64 17, .int .i64 fp, .int .i64 tp, .bool false, .bool false, .bool false, .bool false, .int .i64 0, .int .i64 0, .bool false, .int .i64 0, .slice pA pn pc]] w fun e w' => e = .returned (.bool false) ∧ Below w.heap.size w w' := by
  have hC := CA.made w [.bool s6, .int .u64 sh, .int .u64 sl, .bool s6, .int .u64 th, .int .u64 tl, .int .i64 hops, .int .i64 17, .int .i64 fp, .int .i64 tp, .bool false, .bool false, .bool false, .bool false, .int .i64 0, .int .i64 0, .bool false, .int .i64 0, .slice pA pn pc] 31
  have HB := Lib.hid (below_alloc1 w (.cells #[.bool s6, .int .u64 sh, .int .u64 sl, .bool s6, .int .u64 th, .int .u64 tl, .int .i64 hops, .int .i64 17, .int .i64 fp, .int .i64 tp, .bool false, .bool false, .bool false, .bool false, .int .i64 0, .int .i64 0, .bool false, .int .i64 0, .slice pA pn pc] 31))
  have c7 := hC.2 7 _ rfl
  have c8 := hC.2 8 _ rfl
  have c9 := hC.2 9 _ rfl
  have c10 := hC.2 10 _ rfl
  have c11 := hC.2 11 _ rfl
  have c12 := hC.2 12 _ rfl
  have c13 := hC.2 13 _ rfl
  have c14 := hC.2 14 _ rfl
  have c15 := hC.2 15 _ rfl
  have c16 := hC.2 16 _ rfl
  have c17 := hC.2 17 _ rfl
  clear hC
  go_enter Tryz.func36, Tryz.ntmps36
  go_wp2_with fail
  go_quiet (fail)
  go_wp2_with fail
  go_ret
  exact ⟨rfl, ⟨HB.out.os, HB.out.tape, HB.out.output, HB.out.size, HB.out.block⟩⟩
set_option maxRecDepth 100000 in
set_option maxHeartbeats 1000000 in
theorem unused_icmp (s6 : Bool) (sh : Int) (sl : Int) (th : Int) (tl : Int) (hops : Int) (seq : Int) (reply : Bool) (id : Int) (pA : Option Addr) (pn : Nat) (pc : Nat) (w : World) : Calls Tryz.prog 36 #[.agg #[.bool s6, .int .u64 sh, .int .u64 sl, .bool s6, .int .u64 th, .int .u64 tl, .int .i64 hops, .int .i64 1, .int .i64 0, .int .i64 0, .bool false, .bool false, .bool false, .bool false, .int .i64 seq, .int .i64 0, .bool reply, .int .i64 id, .slice pA pn pc]] w fun e w' => e = .returned (.bool false) ∧ Below w.heap.size w w' := by
  have hC := CA.made w [.bool s6, .int .u64 sh, .int .u64 sl, .bool s6, .int .u64 th, .int .u64 tl, .int .i64 hops, .int .i64 1, .int .i64 0, .int .i64 0, .bool false, .bool false, .bool false, .bool false, .int .i64 seq, .int .i64 0, .bool reply, .int .i64 id, .slice pA pn pc] 31
  have HB := Lib.hid (below_alloc1 w (.cells #[.bool s6, .int .u64 sh, .int .u64 sl, .bool s6, .int .u64 th, .int .u64 tl, .int .i64 hops, .int .i64 1, .int .i64 0, .int .i64 0, .bool false, .bool false, .bool false, .bool false, .int .i64 seq, .int .i64 0, .bool reply, .int .i64 id, .slice pA pn pc] 31))
  have c7 := hC.2 7 _ rfl
  have c8 := hC.2 8 _ rfl
  have c9 := hC.2 9 _ rfl
  have c10 := hC.2 10 _ rfl
  have c11 := hC.2 11 _ rfl
  have c12 := hC.2 12 _ rfl
  have c13 := hC.2 13 _ rfl
  have c14 := hC.2 14 _ rfl
  have c15 := hC.2 15 _ rfl
  have c16 := hC.2 16 _ rfl
  have c17 := hC.2 17 _ rfl
  clear hC
  go_enter Tryz.func36, Tryz.ntmps36
  go_wp2_with fail
  go_quiet (fail)
  go_wp2_with fail
  go_ret
  exact ⟨rfl, ⟨HB.out.os, HB.out.tape, HB.out.output, HB.out.size, HB.out.block⟩⟩
theorem unused_any (p : Pk) (h : PkOk p) (w : World) : Calls Tryz.prog 36 #[.agg #[.bool p.f.s6, .int .u64 p.f.sh, .int .u64 p.f.sl, .bool p.f.t6, .int .u64 p.f.th, .int .u64 p.f.tl, .int .i64 p.hops, .int .i64 p.f.proto, .int .i64 p.f.fp, .int .i64 p.f.tp, .bool p.syn, .bool p.fin, .bool p.rst, .bool p.has, .int .i64 p.seq, .int .i64 p.ack, .bool p.reply, .int .i64 p.id, .slice p.pA p.pn p.pc]] w fun e w' => e = .returned (.bool false) ∧ Below w.heap.size w w' := by
  obtain ⟨⟨proto, s6, sh, sl, t6, th, tl, fp, tp⟩, hops, syn, fin, rst, has, seq, ack, reply, id, pA, pn, pc⟩ := p
  have h1 := h.fl.six
  have h2 := h.known
  have h3 := h.icmp
  have h4 := h.udp
  have h5 := h.ntcp
  have h6 := h.nicmp
  dsimp only at h1 h2 h3 h4 h5 h6 ⊢
  subst h1
  rcases h2 with rfl | rfl | rfl
  · obtain ⟨rfl, rfl⟩ := h6 (by decide)
    apply unused_tcp
  · obtain ⟨rfl, rfl⟩ := h6 (by decide)
    obtain ⟨rfl, rfl, rfl, rfl, rfl⟩ := h5 (by decide)
    obtain rfl := h4 rfl
    apply unused_udp
  · obtain ⟨rfl, rfl, rfl, rfl, rfl⟩ := h5 (by decide)
    obtain ⟨rfl, rfl, -⟩ := h3 rfl
    apply unused_icmp
end Go.Proofs.YtfakfhbcpldeoaaGreatDoor
