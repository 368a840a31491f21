/- Stream.Odd, Raw, Flow: what is handed out is typed. -/
import Derived.Test.YthjfnlbekbhmgaaGreatDoorAdS
import Derived.Test.YthjfnlbekbhmgaaGreatDoorOdd
import Derived.Test.YthjfnlbekbhmgaaGreatDoorRpO
import Derived.Test.YthjfnlbekbhmgaaGreatDoorDsA
namespace Go.Proofs.YthjfnlbekbhmgaaGreatDoor
open Go.RowKit Go.Hw

/-- Like AddrOut, of an address that need not be right. -/
def RawOut (w : World) (b : Nat) (A : Option Addr) (cap : Nat) (l : List Int) (at_ m : Int) (e : Ending) (w' : World) : Prop :=
  ∃ six hi lo, e = .returned (.agg #[.bool six, .int .u64 hi, .int .u64 lo]) ∧ (U64 hi ∧ U64 lo) ∧ StrTo w w' b A cap l at_ m
set_option maxRecDepth 100000 in
set_option maxHeartbeats 2000000 in
theorem raw_any (b : Nat) (A : Option Addr) (cap : Nat) (l : List Int) (at_ : Int) (w : World) (h : Str w b A cap l at_) (hh : at_ < 1099511627000) :
    Calls Tryz.prog 56 #[.pointer (some ⟨b, 0, none⟩)] w (RawOut w b A cap l at_ 10) := by
  have hbl := h.lt
  have h0 := h.alloc (.cells #[.bool false, .int .u64 0, .int .u64 0] 35)
  have l0 := h.low
  go_enter Tryz.func56, Tryz.ntmps56
  go_wp2_with fail
  refine (addr_any b A cap l at_ _ h0 hh).mono ?_
  rintro e w1 ⟨six, hi, lo, rfl, hfine, at1, ha1, ha2, hs1, hg1⟩
  have hhi : U64 hi ∧ U64 lo := ⟨hfine.1, hfine.2.1⟩
  have hz := (hg1.block w.heap.size (by simp) (fun e => by injection e with e; omega)).trans (heap_alloc_new w _)
  have hl1 := lt_of_block hz
  have HG1 := Lib.hid (grown_alloc_then hg1)
  have HZ := Lib.hid hz
  have HI := Lib.hid hhi
  clear hfine hg1 hz h h0 hhi
  go_wp2_with fail
  refine (flip_any b A cap l at1 15 _ (hs1.alloc _) (by omega) (by omega) (by omega)).mono ?_
  rintro e w2 ⟨rfl, hs2, hg2⟩
  have hz2 := (hg2.block w.heap.size (by simp; omega) (fun e => by injection e with e; omega)).trans ((heap_alloc_old w1 _ hl1).trans HZ.out)
  have hy2 := (hg2.block w1.heap.size (by simp) (fun e => by injection e with e; have := hs1.lt; omega)).trans (heap_alloc_new w1 _)
  have HG2 := Lib.hid (HG1.out.andThen (grown_alloc_then hg2) (fun _ h => .inr h))
  have hl2 := lt_of_block hz2
  have HZ2 := Lib.hid hz2
  have HY2 := Lib.hid hy2
  have hl3 := lt_of_block hy2
  clear hg2 hz2 hy2 HG1 HZ
  generalize hfl : (drawOf l at1 15 == 0) = fl
  clear hfl
  cases fl
  · obtain ⟨z0, z1, z2, zf0, zf1, zf2⟩ := res3 HZ2.out
    obtain ⟨y0, y1, y2, -, -, -⟩ := res3 HY2.out
    go_wp2_with fail
    clear z0 z1 z2 y0 y1 y2
    generalize hW : World.setCell _ _ _ = W9
    obtain ⟨hr, hS9, hG9⟩ := addr_fin hbl HZ2.out hs2 HG2.out hW
    obtain ⟨y0, y1, y2, -, -, -⟩ := res3 hr
    refine bodyPost_ret (v := .agg #[.bool six, .int .u64 hi, .int .u64 lo]) (by simp [results, Tryz.results56, go_sem, y0, y1, y2]) rfl ⟨six, hi, lo, rfl, HI.out, str_mono hS9 hG9 (by omega) (by omega)⟩
  · go_wp2_with fail
    have p0 := draw_low l (at1 + 1) 2 (by omega)
    have p1 := draw_high l (at1 + 1) 2 (by omega)
    refine (next_any b A cap l (at1 + 1) 2 _ hs2 (by omega) (by omega) (by omega)).mono ?_
    rintro e w3 ⟨rfl, hs3, hg3⟩
    have hz3 := (hg3.block w.heap.size hl2 (fun e => by injection e with e; omega)).trans HZ2.out
    have HG3 := Lib.hid (HG2.out.andThen hg3 (fun _ h => .inr h))
    have hl4 := lt_of_block hz3
    have HZ3 := Lib.hid hz3
    clear hg3 hz3 HG2 HZ2 HY2
    generalize drawOf l (at1 + 1) 2 = d1 at *
    have q0 := draw_low l (at1 + 1 + 1) 3 (by omega)
    have q1 := draw_high l (at1 + 1 + 1) 3 (by omega)
    go_wp2_with fail
    refine (next_any b A cap l (at1 + 1 + 1) 3 _ (hs3.alloc _) (by omega) (by omega) (by omega)).mono ?_
    rintro e w4 ⟨rfl, hs4, hg4⟩
    have hz4 := (hg4.block w.heap.size (by simp; omega) (fun e => by injection e with e; omega)).trans ((heap_alloc_old w3 _ hl4).trans HZ3.out)
    have hvb : U64 (([4294967296, 5, 1099511627776] : List Int).getD (drawOf l (at1 + 1 + 1) 3).toNat 0) := by
      have hm := getD_mem (vs := ([4294967296, 5, 1099511627776] : List Int)) (i := (drawOf l (at1 + 1 + 1) 3).toNat) (d := 0) (by simp; omega)
      simp only [List.mem_cons, List.mem_nil_iff, or_false] at hm
      unfold U64
      omega
    have hv := u64_at (vs := ([4294967296, 5, 1099511627776] : List Int)) (heap_alloc_new w3 _) hg4 (fun e => by injection e with e; have := hs3.lt; omega) (k := (drawOf l (at1 + 1 + 1) 3).toNat) (by simp; omega)
    generalize ([4294967296, 5, 1099511627776] : List Int).getD (drawOf l (at1 + 1 + 1) 3).toNat 0 = vv at hv hvb
    generalize drawOf l (at1 + 1 + 1) 3 = d2 at *
    have HG4 := Lib.hid (HG3.out.andThen (grown_alloc_then hg4) (fun _ h => .inr h))
    have hl5 := lt_of_block hz4
    have HZ4 := Lib.hid hz4
    obtain ⟨z0, z1, z2, zf0, zf1, zf2⟩ := res3 hz4
    have HI2 : Hid (U64 d1 ∧ U64 vv) := Lib.hid ⟨⟨p0, by omega⟩, hvb⟩
    clear hvb
    clear hg4 hz4 HG3 HZ3
    go_wp2_with fail
    clear z0 z1 z2 hv
    generalize hW : World.setCell _ _ _ = W9
    obtain ⟨hr, hS9, hG9⟩ := addr_fin hbl HZ4.out hs4 HG4.out hW
    obtain ⟨y0, y1, y2, -, -, -⟩ := res3 hr
    refine bodyPost_ret (v := .agg #[.bool false, .int .u64 d1, .int .u64 vv]) (by simp [results, Tryz.results56, go_sem, y0, y1, y2]) rfl ⟨false, d1, vv, rfl, HI2.out, str_mono hS9 hG9 (by omega) (by omega)⟩
section
variable {w0 w : World} {b : Nat} {A : Option Addr} {cap : Nat} {l : List Int} {at_ m : Int} {bs : List Bk}
theorem DS.odd (h : DS w0 w b A cap l at_ m bs) (hm : at_ + m < 1099511620000) (lo hi : Int) (hlo : -1099511627776 ≤ lo) (hle : lo ≤ hi) (hhi : hi ≤ 1099511627776) :
    Calls Tryz.prog 27 #[.pointer (some ⟨b, 0, none⟩), .int .i64 lo, .int .i64 hi] w fun e w' => (∃ d : Int, e = .returned (.int .i64 d)) ∧ DS w0 w' b A cap l at_ (m + 2) bs ∧ w.grownBy w' (some b) :=
  h.call fun x _ hx hs => (odd_any b A cap l x lo hi w hs (by omega) hlo hle hhi).mono fun e w' ⟨he, hs, hg⟩ => ⟨⟨_, he⟩, x + 2, by omega, by omega, hs, hg⟩
theorem DS.raw (h : DS w0 w b A cap l at_ m bs) (hm : at_ + m < 1099511620000) :
    Calls Tryz.prog 56 #[.pointer (some ⟨b, 0, none⟩)] w fun e w' => (∃ six hi lo, e = .returned (.agg #[.bool six, .int .u64 hi, .int .u64 lo]) ∧ U64 hi ∧ U64 lo) ∧ DS w0 w' b A cap l at_ (m + 10) bs ∧ w.grownBy w' (some b) :=
  h.call fun x _ hx hs => (raw_any b A cap l x w hs (by omega)).mono fun e w' ⟨s, a, c, he, hu, ht⟩ => ⟨⟨s, a, c, he, hu⟩, ht⟩
end
theorem FlR.t {f : Fl} (h : FlR f) : FlT f := ⟨⟨h.src.1, h.src.2.1⟩, ⟨h.src.2.2.1, h.src.2.2.2.1⟩, ⟨h.dst.1, h.dst.2.1⟩, ⟨h.dst.2.2.1, h.dst.2.2.2.1⟩⟩
theorem DS.rflow {w0 w : World} {b : Nat} {A : Option Addr} {cap : Nat} {l : List Int} {at_ m : Int} {bs : List Bk} (h : DS w0 w b A cap l at_ m bs) (hm : at_ + m < 1099511620000) :
    Calls Tryz.prog 55 #[.pointer (some ⟨b, 0, none⟩)] w fun e w' => (∃ f : Fl, FlT f ∧ e = .returned (.agg #[.int .i64 f.proto, .bool f.s6, .int .u64 f.sh, .int .u64 f.sl, .bool f.t6, .int .u64 f.th, .int .u64 f.tl, .int .i64 f.fp, .int .i64 f.tp])) ∧ DS w0 w' b A cap l at_ (m + 12) bs ∧ w.grownBy w' (some b) :=
  h.call fun x _ hx hs => (rightFlow_any b A cap l x w hs (by omega)).mono fun e w' ⟨⟨f, hf, he⟩, ht⟩ => ⟨⟨f, hf.t, he⟩, ht⟩
set_option maxRecDepth 100000 in
set_option maxHeartbeats 4000000 in
theorem flow_any (b : Nat) (A : Option Addr) (cap : Nat) (l : List Int) (at_ : Int) (w : World) (h : Str w b A cap l at_) (hh : at_ < 1099511610000) :
    Calls Tryz.prog 28 #[.pointer (some ⟨b, 0, none⟩)] w fun e w' => (∃ f : Fl, FlT f ∧ e = .returned (.agg (flA f))) ∧ StrTo w w' b A cap l at_ 30 := by
  have D0 := (DS.start h).al (flA noFl) 37
  go_enter Tryz.func28, Tryz.ntmps28
  go_wp2_with fail
  refine (D0.rflow (by omega)).mono ?_
  rintro e W1 ⟨⟨f, hf, rfl⟩, D1, -⟩
  clear D0
  have D2 := D1.al (flA f) 37
  go_wp2_with fail
  generalize hW : World.alloc W1 _ = W2
  generalize hF : W1.heap.size = F at *
  have D3 : DS w W2 b A cap l at_ 12 [(F, flA f, 37), (w.heap.size, flA noFl, 37)] := by rw [← hW]; exact D2.le (by omega)
  clear D1 D2 hF hW
  refine (D3.flip (by omega) 15 (by omega) (by omega)).mono ?_
  rintro e W3 ⟨⟨y, rfl⟩, D4, -⟩
  clear D3
  go_upto_if 7 with (fail)
  go_cut [] (fun wc => ∃ f : Fl, FlT f ∧ DS w wc b A cap l at_ 29 [(F, flA f, 37), (w.heap.size, flA noFl, 37)])
  case first =>
    cases y
    · go_wp2_with fail
      go_meet
      exact ⟨f, hf, D4.le (by omega)⟩
    · go_wp2_with fail
      refine (D4.next (by omega) 4 (by omega) (by omega)).mono ?_
      rintro e W5 ⟨⟨d, h0, h4, rfl⟩, D5, -⟩
      clear D4
      have hc : d = 0 ∨ d = 1 ∨ d = 2 ∨ d = 3 := by omega
      clear h0 h4
      rcases hc with rfl | rfl | rfl | rfl
      · go_wp2_with fail
        refine (D5.odd (by omega) 1 255 (by omega) (by omega) (by omega)).mono ?_
        rintro e W6 ⟨⟨d, rfl⟩, D6, -⟩
        clear D5
        obtain ⟨⟨c0, c1, c2, c3, c4, c5, c6, c7, c8⟩, z0, z1, z2, z3, z4, z5, z6, z7, z8⟩ := flA_cells D6
        go_wp2_with fail
        go_meet
        exact ⟨{ f with proto := d }, ⟨hf.sh, hf.sl, hf.th, hf.tl⟩, (D6.set 0 0 _ rfl).le (by omega)⟩
      · go_wp2_with fail
        refine (D5.raw (by omega)).mono ?_
        rintro e W6 ⟨⟨s, x, y, rfl, hx, hy⟩, D6, -⟩
        clear D5
        obtain ⟨⟨c0, c1, c2, c3, c4, c5, c6, c7, c8⟩, z0, z1, z2, z3, z4, z5, z6, z7, z8⟩ := flA_cells D6
        go_wp2_with fail
        go_meet
        exact ⟨{ f with s6 := s, sh := x, sl := y }, ⟨hx, hy, hf.th, hf.tl⟩, (((D6.set 0 1 _ rfl).set 0 2 _ rfl).set 0 3 _ rfl).le (by omega)⟩
      · go_wp2_with fail
        refine (D5.odd (by omega) 0 65535 (by omega) (by omega) (by omega)).mono ?_
        rintro e W6 ⟨⟨d, rfl⟩, D6, -⟩
        clear D5
        obtain ⟨⟨c0, c1, c2, c3, c4, c5, c6, c7, c8⟩, z0, z1, z2, z3, z4, z5, z6, z7, z8⟩ := flA_cells D6
        go_wp2_with fail
        go_meet
        exact ⟨{ f with tp := d }, ⟨hf.sh, hf.sl, hf.th, hf.tl⟩, (D6.set 0 8 _ rfl).le (by omega)⟩
      · go_wp2_with fail
        refine (D5.odd (by omega) 0 65535 (by omega) (by omega) (by omega)).mono ?_
        rintro e W6 ⟨⟨d, rfl⟩, D6, -⟩
        clear D5
        obtain ⟨⟨c0, c1, c2, c3, c4, c5, c6, c7, c8⟩, z0, z1, z2, z3, z4, z5, z6, z7, z8⟩ := flA_cells D6
        go_wp2_with fail
        go_meet
        exact ⟨{ f with fp := d }, ⟨hf.sh, hf.sl, hf.th, hf.tl⟩, (D6.set 0 7 _ rfl).le (by omega)⟩
  case rest =>
    obtain ⟨g, hg, E2⟩ := hcut
    clear D4
    obtain ⟨⟨c0, c1, c2, c3, c4, c5, c6, c7, c8⟩, z0, z1, z2, z3, z4, z5, z6, z7, z8⟩ := flA_cells E2
    obtain ⟨⟨y0, y1, y2, y3, y4, y5, y6, y7, y8⟩, x0, x1, x2, x3, x4, x5, x6, x7, x8⟩ := flA_cells E2.tail
    have hFR : F ≠ w.heap.size := by have := E2.ne; simp at this; exact this
    go_wp2_with fail
    generalize hW : World.setCell _ _ _ = W9
    have E4 : DS w W9 b A cap l at_ 29 [(F, flA g, 37), (w.heap.size, flA g, 37)] := E2.re 1 rfl (re9 (E2.blk _ (List.mem_of_getElem? (i := 1) rfl)) hW)
    clear hW E2 c0 c1 c2 c3 c4 c5 c6 c7 c8 y0 y1 y2 y3 y4 y5 y6 y7 y8
    obtain ⟨⟨c0, c1, c2, c3, c4, c5, c6, c7, c8⟩, -⟩ := flA_cells E4.tail
    exact bodyPost_ret (v := .agg (flA g)) (by simp [results, Tryz.results28, go_sem, flA, c0, c1, c2, c3, c4, c5, c6, c7, c8]) rfl ⟨⟨g, hg, rfl⟩, (E4.le (by omega)).to⟩
theorem DS.aflow {w0 w : World} {b : Nat} {A : Option Addr} {cap : Nat} {l : List Int} {at_ m : Int} {bs : List Bk} (h : DS w0 w b A cap l at_ m bs) (hm : at_ + m < 1099511610000) :
    Calls Tryz.prog 28 #[.pointer (some ⟨b, 0, none⟩)] w fun e w' => (∃ f : Fl, FlT f ∧ e = .returned (.agg #[.int .i64 f.proto, .bool f.s6, .int .u64 f.sh, .int .u64 f.sl, .bool f.t6, .int .u64 f.th, .int .u64 f.tl, .int .i64 f.fp, .int .i64 f.tp])) ∧ DS w0 w' b A cap l at_ (m + 30) bs ∧ w.grownBy w' (some b) :=
  h.call fun x _ hx hs => (flow_any b A cap l x w hs (by omega)).mono fun e w' ⟨⟨f, hf, he⟩, ht⟩ => ⟨⟨f, hf, he⟩, ht⟩
end Go.Proofs.YthjfnlbekbhmgaaGreatDoor
