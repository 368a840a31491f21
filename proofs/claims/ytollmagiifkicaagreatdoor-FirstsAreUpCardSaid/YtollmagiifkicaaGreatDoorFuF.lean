/- route.Firsts, First, Way. Leads: slices.IndexFunc, Index, Contains; the law's closure. -/
import Derived.Test.YtollmagiifkicaaGreatDoorFuD
import Derived.Test.YtollmagiifkicaaGreatDoorFuI
import Derived.Laws.StructEq
import Derived.BigQuiet
namespace Go.Proofs.YtollmagiifkicaaGreatDoor
open Go.RowKit Go.Hw Go.Shelf

set_option maxRecDepth 100000 in
set_option maxHeartbeats 1000000 in
theorem Firsts_any (A : Option Addr) (cap : Nat) (r : List Rt) (AH : Option Addr) (capH : Nat) (l : List Hl) (t : Int) (w : World) (h : RtsAt w w.heap.size A r) (hH : HlsAt w w.heap.size AH l) (F : LogFine r l) (ht : 0 ≤ t ∧ t < 345686400) :
    Calls Tryz.prog 16 #[.slice A r.length cap, .slice AH l.length capH, .int .i64 t] w fun e w' => ∃ v, e = .returned (.tuple #[v, .int .i64 0]) ∧ LdsOwn w' w.heap.size v (leadsP r l t) ∧ Below w.heap.size w w' := by
  have h1 := routersFault2_any A cap r AH capH l w h hH F
  have H := Lib.hid h
  have HH := Lib.hid hH
  have hr := rt_fine F.rf F.rl
  have hl := hl_fine F.lf F.ll
  have hrl := F.rl
  have hll := F.ll
  clear h hH F
  go_enter Tryz.func16, Tryz.ntmps16
  go_wp2_with fail
  refine h1.mono ?_
  rintro e w1 ⟨rfl, hb1⟩
  have HB := Lib.hid hb1
  clear h1 hb1
  go_wp2_with fail
  refine (momentFault_any t w1 ht).mono ?_
  rintro e w2 ⟨rfl, rfl⟩
  have h2 := firsts_any A cap r AH capH l t w1 ((H.out.below HB.out).wide HB.out.size) ((HH.out.below HB.out).wide HB.out.size) hr hl hrl hll
  clear hr hl
  go_wp2_with fail
  refine h2.mono ?_
  rintro e w3 ⟨v, rfl, hO, hb3⟩
  have HO := Lib.hid (show LdsOwn w3 w.heap.size v (leadsP r l t) from own_base hO HB.out.size)
  have HB3 := Lib.hid (HB.out.trans (hb3.mono HB.out.size))
  obtain ⟨A3, c3, rfl, -⟩ := lds_at hO
  clear h2 hb3 hO
  go_wp2_with fail
  go_ret2
  exact ⟨_, rfl, HO.out, HB3.out⟩

def firstCode (n : ByteArray) : Int := if n.size = 0 then 8 else 0
set_option maxRecDepth 100000 in
set_option maxHeartbeats 1000000 in
theorem First_any (A : Option Addr) (cap : Nat) (r : List Rt) (AH : Option Addr) (capH : Nat) (l : List Hl) (p6 : Bool) (ph pl pb t : Int) (own : List Rt) (w : World) (h : RtsAt w w.heap.size A r) (hH : HlsAt w w.heap.size AH l) (F : LogFine r l) (uh : U64 ph) (ul : U64 pl) (hc : pfCode p6 ph pl pb = 0)
    (ho : ownP r ⟨p6, ph, pl, pb⟩ = some own) (ht : 0 ≤ t ∧ t < 345686400) :
    Calls Tryz.prog 20 #[.slice A r.length cap, .slice AH l.length capH, .agg #[.bool p6, .int .u64 ph, .int .u64 pl, .int .i64 pb], .int .i64 t] w fun e w' => e = .returned (.tuple #[.string (whoP (turnsP own l) t), .int .i64 (firstCode (whoP (turnsP own l) t))]) ∧ Below w.heap.size w w' := by
  have hB : Below w.heap.size w (w.alloc (.cells #[.bool p6, .int .u64 ph, .int .u64 pl, .int .i64 pb] 39)) := (Below.refl _ _).alloc (Nat.le_refl _) _
  have hO := routeOf_any A cap r AH capH l p6 ph pl pb own (w.alloc (.cells #[.bool p6, .int .u64 ph, .int .u64 pl, .int .i64 pb] 39)) ((h.below hB).wide hB.size) ((hH.below hB).wide hB.size) F uh ul hc ho
  have HH := Lib.hid hH
  have HB := Lib.hid hB
  have hr := (rt_fine F.rf F.rl).own ho
  have hl := hl_fine F.lf F.ll
  have hll := F.ll
  have hol : own.length ≤ 500 := Nat.le_trans (own_len ho) F.rl
  clear h hH hB F ho
  go_enter Tryz.func20, Tryz.ntmps20
  go_wp2_with fail
  refine hO.mono ?_
  rintro e w1 ⟨A1, c1, rfl, ha1, hb1⟩
  have HB1 := Lib.hid (HB.out.trans (hb1.mono HB.out.size))
  have htn := turns_any A1 c1 own AH capH l w1 ha1 ((HH.out.below HB1.out).wide HB1.out.size) hr hl hol hll
  have htl := turns_len hr hl
  clear hO hb1 HB ha1 hr hl
  go_wp2_with fail
  refine (momentFault_any t w1 ht).mono ?_
  rintro e w1' ⟨rfl, rfl⟩
  go_wp2_with fail
  refine htn.mono ?_
  rintro e w2 ⟨v, rfl, hT, hb2⟩
  obtain ⟨A2, c2, rfl, ha2⟩ := tns_at hT
  have hw := whoAt_any A2 c2 (turnsP own l) t w2 ha2 (by omega)
  have HB2 := Lib.hid (HB1.out.trans (hb2.mono HB1.out.size))
  clear htn hT hb2 ha2 HB1
  go_wp2_with fail
  refine hw.mono ?_
  rintro e w3 ⟨rfl, hb3⟩
  have HB3 := Lib.hid (HB2.out.trans (hb3.mono HB2.out.size))
  clear hw hb3 HB2
  generalize hwe : whoP (turnsP own l) t = who
  have HWE := Lib.hid hwe
  clear hwe
  by_cases hz : who.size = 0
  · obtain rfl : who = ⟨#[]⟩ := size0 hz rfl
    go_wp2_with fail
    go_ret2
    exact ⟨by rw [HWE.out, show firstCode ⟨#[]⟩ = 8 from rfl]; rfl, HB3.out⟩
  · obtain ⟨r1, r2⟩ := str_ne hz
    have HZ := Lib.hid hz
    clear hz
    go_wp2_with fail
    go_ret2
    exact ⟨by rw [HWE.out, show firstCode who = 0 from if_neg HZ.out]; rfl, HB3.out⟩

def ldObj (x : Ld) : Obj := .cells #[.bool x.pf.six, .int .u64 x.pf.hi, .int .u64 x.pf.lo, .int .i64 x.pf.bits, .string x.node] 61 (0, 0)
def WyI (w4 : World) (B : Nat) (P : Pf → Bool) (xs : List Ld) (v15 v43 : Value) (wr : World) : Prop :=
  ∃ k : Nat, k ≤ xs.length ∧ v43 = .int .i64 k ∧ v15 = .bool (wayP P (xs.take k)).2 ∧ wr.heap[B]? = some (ldObj (wayP P (xs.take k)).1) ∧ w4.grownBy wr (some B)
theorem take_getL {l : List Ld} {i : Nat} (h : i < l.length) : l.take (i + 1) = l.take i ++ [l.getD i noLd] := by
  rw [List.take_succ_eq_append_getElem h, List.getD_eq_getElem?_getD, List.getElem?_eq_getElem h]
  rfl

set_option maxRecDepth 100000 in
set_option maxHeartbeats 4000000 in
theorem Way_any (A : Option Addr) (cap : Nat) (r : List Rt) (AH : Option Addr) (capH : Nat) (l : List Hl) (s : Bool) (ah al t : Int) (w : World) (h : RtsAt w w.heap.size A r) (hH : HlsAt w w.heap.size AH l) (F : LogFine r l) (uh : U64 ah) (ul : U64 al) (hac : addrCode s ah al = 0) (ht : 0 ≤ t ∧ t < 345686400)
    (hpf : ∀ x ∈ leadsP r l t, pfCode x.pf.six x.pf.hi x.pf.lo x.pf.bits = 0 ∧ U64 x.pf.hi ∧ U64 x.pf.lo) (way : Ld × Bool) (hway : wayP (fun p => holdsP p s ah al) (leadsP r l t) = way) :
    Calls Tryz.prog 21 #[.slice A r.length cap, .slice AH l.length capH, .agg #[.bool s, .int .u64 ah, .int .u64 al], .int .i64 t] w fun e w' => e = .returned (.tuple #[.agg #[.bool way.1.pf.six, .int .u64 way.1.pf.hi, .int .u64 way.1.pf.lo, .int .i64 way.1.pf.bits, .string way.1.node], .bool way.2, .int .i64 0]) ∧ Below w.heap.size w w' := by
  have hB : Below w.heap.size w ((w.alloc (addrBox s ah al)).alloc (.cells #[.bool false, .int .u64 0, .int .u64 0, .int .i64 0, .string ⟨#[]⟩] 61)) := ((Below.refl _ _).alloc (Nat.le_refl _) _).alloc (by simp) _
  have hx0 : ((w.alloc (addrBox s ah al)).alloc (.cells #[.bool false, .int .u64 0, .int .u64 0, .int .i64 0, .string ⟨#[]⟩] 61)).heap[w.heap.size]? = some (addrBox s ah al) := (heap_alloc_old _ _ (by simp)).trans (heap_alloc_new w _)
  have hx1 : ((w.alloc (addrBox s ah al)).alloc (.cells #[.bool false, .int .u64 0, .int .u64 0, .int .i64 0, .string ⟨#[]⟩] 61)).heap[w.heap.size + 1]? = some (.cells #[.bool false, .int .u64 0, .int .u64 0, .int .i64 0, .string ⟨#[]⟩] 61) := by
    have := heap_alloc_new (w.alloc (addrBox s ah al)) (.cells #[.bool false, .int .u64 0, .int .u64 0, .int .i64 0, .string ⟨#[]⟩] 61)
    simp only [Re_size] at this
    exact this
  have h1 := routersFault2_any A cap r AH capH l ((w.alloc (addrBox s ah al)).alloc (.cells #[.bool false, .int .u64 0, .int .u64 0, .int .i64 0, .string ⟨#[]⟩] 61)) ((h.below hB).wide hB.size) ((hH.below hB).wide hB.size) F
  have lW : w.heap.size + 1 < ((w.alloc (addrBox s ah al)).alloc (.cells #[.bool false, .int .u64 0, .int .u64 0, .int .i64 0, .string ⟨#[]⟩] 61)).heap.size := by simp
  have H := Lib.hid h
  have HH := Lib.hid hH
  have HB := Lib.hid hB
  have HX0 := Lib.hid hx0
  have HX1 := Lib.hid hx1
  have hr := rt_fine F.rf F.rl
  have hl := hl_fine F.lf F.ll
  have hrl := F.rl
  have hll := F.ll
  have HPF := Lib.hid hpf
  have HWAY := Lib.hid hway
  have HAC := Lib.hid hac
  have UH := Lib.hid uh
  have UL := Lib.hid ul
  have huh := uh.1
  clear h hH F hB hx0 hx1 hpf hway hac uh ul
  unfold addrBox at h1 lW HB HX0 HX1
  go_enter Tryz.func21, Tryz.ntmps21
  go_wp2_with fail
  generalize hW0 : World.alloc _ _ = W0 at *
  refine h1.mono ?_
  rintro e w1 ⟨rfl, hb1⟩
  have HB1 := Lib.hid (HB.out.trans (hb1.mono HB.out.size))
  have q0 := (hb1.block w.heap.size (by omega)).trans HX0.out
  have HY0 := Lib.hid q0
  have HY1 := Lib.hid ((hb1.block (w.heap.size + 1) (by omega)).trans HX1.out)
  have l1 : w.heap.size + 1 < w1.heap.size := Nat.lt_of_lt_of_le lW hb1.size
  obtain ⟨a0, a1, a2, -⟩ := res3 q0
  clear h1 hb1 HB HX0 HX1 q0 hW0
  go_wp2_with fail
  refine (checkAddr_any s ah al w1 huh).mono ?_
  rintro e w2 ⟨rfl, hb2⟩
  rw [HAC.out]
  have HB2 := Lib.hid (HB1.out.trans (hb2.mono HB1.out.size))
  have HZ0 := Lib.hid ((hb2.block w.heap.size (by omega)).trans HY0.out)
  have HZ1 := Lib.hid ((hb2.block (w.heap.size + 1) (by omega)).trans HY1.out)
  have l2 : w.heap.size + 1 < w2.heap.size := Nat.lt_of_lt_of_le l1 hb2.size
  clear hb2 HB1 HY0 HY1 a0 a1 a2
  go_wp2_with fail
  refine (momentFault_any t w2 ht).mono ?_
  rintro e w2' ⟨rfl, rfl⟩
  have hb3 := HB2.out.alloc HB2.out.size (.cells #[.bool false, .int .u64 0, .int .u64 0, .int .i64 0, .string ⟨#[]⟩] 61)
  have hf := firsts_any A cap r AH capH l t (w2.alloc (.cells #[.bool false, .int .u64 0, .int .u64 0, .int .i64 0, .string ⟨#[]⟩] 61)) ((H.out.below hb3).wide hb3.size) ((HH.out.below hb3).wide hb3.size) hr hl hrl hll
  have HB3 := Lib.hid hb3
  have HT14 := Lib.hid (heap_alloc_new w2 (.cells #[.bool false, .int .u64 0, .int .u64 0, .int .i64 0, .string ⟨#[]⟩] 61))
  have HT0 := Lib.hid ((heap_alloc_old w2 (.cells #[.bool false, .int .u64 0, .int .u64 0, .int .i64 0, .string ⟨#[]⟩] 61) (show w.heap.size < w2.heap.size by omega)).trans HZ0.out)
  have HT1 := Lib.hid ((heap_alloc_old w2 (.cells #[.bool false, .int .u64 0, .int .u64 0, .int .i64 0, .string ⟨#[]⟩] 61) (show w.heap.size + 1 < w2.heap.size by omega)).trans HZ1.out)
  have l3 : w2.heap.size < (w2.alloc (.cells #[.bool false, .int .u64 0, .int .u64 0, .int .i64 0, .string ⟨#[]⟩] 61)).heap.size := by simp
  clear hb3 hr hl HZ0 HZ1
  go_wp2_with fail
  generalize World.alloc w2 _ = w3 at *
  refine hf.mono ?_
  rintro e w4 ⟨v, rfl, hO, hb4⟩
  have hnb := own_ne hO l3
  obtain ⟨A4, c4, rfl, ha4⟩ := lds_at hO
  have HL4 := Lib.hid ha4
  have HO4 := Lib.hid hO
  have HB4 := Lib.hid (HB3.out.trans (hb4.mono HB3.out.size))
  have HQ14 := Lib.hid ((hb4.block w2.heap.size l3).trans HT14.out)
  have HQ0 := Lib.hid ((hb4.block w.heap.size (by omega)).trans HT0.out)
  have HQ1 := Lib.hid ((hb4.block (w.heap.size + 1) (by omega)).trans HT1.out)
  have l4 : w2.heap.size < w4.heap.size := Nat.lt_of_lt_of_le l3 hb4.size
  clear hf hO hb4 ha4 HB3 HT14 HT0 HT1
  have hxl : (leadsP r l t).length ≤ 500 := Nat.le_trans (leads_len l t (groupsP r)) (Nat.le_trans (grouped r).many hrl)
  generalize leadsP r l t = xs at *
  go_wp2_with fail
  go_loopw [15, 43] (fun v15 v43 wr => WyI w4 w2.heap.size (fun p => holdsP p s ah al) xs v15 v43 wr) (fun _ v43 _ => xs.length - (intOf v43).toNat)
  case atStart => exact ⟨0, by omega, rfl, rfl, HQ14.out, World.grownBy.refl _ _⟩
  case round =>
    obtain ⟨k, hk, rfl, rfl, hbest, hg⟩ := hrel
    have hgs := hg.size
    by_cases hlt : k < xs.length
    · obtain ⟨g, rfl, hgl, c0, c1, c2, c3, c4⟩ := HL4.out k hlt
      have hgb : g ≠ w2.heap.size := fun e => hnb (by rw [e]; rfl)
      have d0 := ((gcell hg).1 g _ hgl hgb).trans c0
      have d1 := ((gcell hg).1 g _ hgl hgb).trans c1
      have d2 := ((gcell hg).1 g _ hgl hgb).trans c2
      have d3 := ((gcell hg).1 g _ hgl hgb).trans c3
      have d4 := ((gcell hg).1 g _ hgl hgb).trans c4
      have hmem : xs.getD k noLd ∈ xs := by rw [List.getD_eq_getElem?_getD, List.getElem?_eq_getElem hlt]; exact List.getElem_mem hlt
      obtain ⟨hpc, up, uq⟩ := HPF.out _ hmem
      have hsn := way_snoc (fun p => holdsP p s ah al) (xs.take k) (xs.getD k noLd)
      rw [← take_getL hlt] at hsn
      unfold wayStep at hsn
      clear c0 c1 c2 c3 c4 hmem
      generalize xs.getD k noLd = x at *
      obtain ⟨⟨x6, xh, xl, xb⟩, xn⟩ := x
      generalize wayP (fun p => holdsP p s ah al) (xs.take k) = y at *
      obtain ⟨⟨⟨y6, yh, yl, yb⟩, yn⟩, yf⟩ := y
      dsimp only at d0 d1 d2 d3 d4 hpc up uq hsn hbest ⊢
      have HSN := Lib.hid hsn
      have hq0 := (hg.block w.heap.size (by omega) (fun e => by injection e with e; omega)).trans HQ0.out
      have a0 := (heap_alloc_old wr (.cells #[.bool x6, .int .u64 xh, .int .u64 xl, .int .i64 xb, .string xn] 61) (lt_of_block hq0)).trans hq0
      have b0 := (heap_alloc_old wr (.cells #[.bool x6, .int .u64 xh, .int .u64 xl, .int .i64 xb, .string xn] 61) (lt_of_block hbest)).trans hbest
      have n0 := heap_alloc_new wr (.cells #[.bool x6, .int .u64 xh, .int .u64 xl, .int .i64 xb, .string xn] 61)
      have HGA := Lib.hid (grown_of_box (o := .cells #[.bool x6, .int .u64 xh, .int .u64 xl, .int .i64 xb, .string xn] 61) hg)
      have hcn := fun W => contains_any x6 xh xl xb s ah al W up uq UH.out UL.out hpc
      obtain ⟨z0, z1, z2, -⟩ := res3 hq0
      have hlw := lt_of_block hq0
      clear hsn hq0 hbest hg
      go_wp2_with fail
      clear z0 z1 z2
      generalize World.alloc wr _ = W5 at *
      clear d0 d1 d2 d3 d4
      unfold ldObj at b0
      have B0 := Lib.hid b0
      have N0 := Lib.hid n0
      clear a0 b0 n0
      refine (hcn _).mono ?_
      rintro e w5 ⟨rfl, hb5⟩
      have HG5 := Lib.hid (grown_below HGA.out hb5 HGA.out.size)
      have m0 := (hb5.block _ (lt_of_block N0.out)).trans N0.out
      have p0 := (hb5.block _ (lt_of_block B0.out)).trans B0.out
      have E14 := Lib.hid p0
      have hneb := lt_of_block p0
      obtain ⟨⟨e0, e1, e2, e3, e4⟩, f0, f1, f2, f3, f4⟩ := res5 m0
      obtain ⟨⟨y0, y1, y2, y3, y4⟩, g0, g1, g2, g3, g4⟩ := res5 p0
      clear hb5 m0 p0 hcn B0 N0 HGA
      cases hhv : holdsP ⟨x6, xh, xl, xb⟩ s ah al
      · have hno : ¬ (holdsP ⟨x6, xh, xl, xb⟩ s ah al = true ∧ (yf = false ∨ yb < xb)) := fun e => by rw [hhv] at e; cases e.1
        have HREL : Hid (WyI w4 w2.heap.size (fun p => holdsP p s ah al) xs (.bool yf) (.int .i64 ((k + 1 : Nat) : Int)) w5) := Lib.hid ⟨k + 1, hlt, rfl, by rw [HSN.out, if_neg (hno)], by rw [HSN.out, if_neg (hno)]; exact E14.out, HG5.out⟩
        clear HSN
        go_wp2_with fail
        go_roundw
        case rel => exact HREL.out
        case measure => simp [intOf]; omega
      · cases yf
        · have hyes : holdsP ⟨x6, xh, xl, xb⟩ s ah al = true ∧ ((false : Bool) = false ∨ yb < xb) := ⟨hhv, .inl rfl⟩
          have HS := Lib.hid (HSN.out.trans (if_pos hyes))
          clear HSN
          go_wp2_with fail
          generalize hW : World.setCell _ _ _ = W6
          have hr := re5 E14.out hW
          have HREL : Hid (WyI w4 w2.heap.size (fun p => holdsP p s ah al) xs (.bool true) (.int .i64 ((k + 1 : Nat) : Int)) W6) := Lib.hid ⟨k + 1, hlt, rfl, by rw [HS.out], by rw [HS.out]; exact hr.blk, hr.grown HG5.out (.inr rfl)⟩
          clear hr hW e0 e1 e2 e3 e4 f0 f1 f2 f3 f4 y0 y1 y2 y3 y4 g0 g1 g2 g3 g4
          go_wp2_with fail
          go_roundw
          case rel => exact HREL.out
          case measure => simp [intOf]; omega
        · by_cases hbb : yb < xb
          · have hyes : holdsP ⟨x6, xh, xl, xb⟩ s ah al = true ∧ ((true : Bool) = false ∨ yb < xb) := ⟨hhv, .inr hbb⟩
            have HS := Lib.hid (HSN.out.trans (if_pos hyes))
            clear HSN
            go_wp2_with fail
            generalize hW : World.setCell _ _ _ = W6
            have hr := re5 E14.out hW
            have HREL : Hid (WyI w4 w2.heap.size (fun p => holdsP p s ah al) xs (.bool true) (.int .i64 ((k + 1 : Nat) : Int)) W6) := Lib.hid ⟨k + 1, hlt, rfl, by rw [HS.out], by rw [HS.out]; exact hr.blk, hr.grown HG5.out (.inr rfl)⟩
            clear hr hW e0 e1 e2 e3 e4 f0 f1 f2 f3 f4 y0 y1 y2 y3 y4 g0 g1 g2 g3 g4
            go_wp2_with fail
            go_roundw
            case rel => exact HREL.out
            case measure => simp [intOf]; omega
          · have hno : ¬ (holdsP ⟨x6, xh, xl, xb⟩ s ah al = true ∧ ((true : Bool) = false ∨ yb < xb)) := fun e => by rcases e.2 with e2 | e2; cases e2; exact hbb e2
            have HREL : Hid (WyI w4 w2.heap.size (fun p => holdsP p s ah al) xs (.bool true) (.int .i64 ((k + 1 : Nat) : Int)) w5) := Lib.hid ⟨k + 1, hlt, rfl, by rw [HSN.out, if_neg (hno)], by rw [HSN.out, if_neg (hno)]; exact E14.out, HG5.out⟩
            clear HSN
            go_wp2_with fail
            go_roundw
            case rel => exact HREL.out
            case measure => simp [intOf]; omega
    · have hkk : k = xs.length := by omega
      rw [hkk, List.take_length, HWAY.out] at hbest
      have hw2 : (wayP (fun p => holdsP p s ah al) (xs.take k)).2 = way.2 := by rw [hkk, List.take_length, HWAY.out]
      rw [hw2]
      obtain ⟨⟨⟨y6, yh, yl, yb⟩, yn⟩, yf⟩ := way
      unfold ldObj at hbest
      dsimp only at hbest ⊢
      have hq1 := (hg.block (w.heap.size + 1) (by omega) (fun e => by injection e with e; omega)).trans HQ1.out
      have HR1 := Lib.hid hq1
      have HGR := Lib.hid hg
      obtain ⟨⟨y0, y1, y2, y3, y4⟩, -⟩ := res5 hbest
      obtain ⟨⟨z0, z1, z2, z3, z4⟩, f0, f1, f2, f3, f4⟩ := res5 hq1
      have hl1 := lt_of_block hq1
      have hbw : Below w.heap.size w wr := HB4.out.grown hg HB4.out.size (fun j hj => by injection hj with hj; omega)
      have HBW := Lib.hid hbw
      clear hbest hq1 hg hw2 hbw
      go_wp2_with fail
      clear z0 z1 z2 z3 z4 y0 y1 y2 y3 y4 f0 f1 f2 f3 f4
      generalize hW : World.setCell _ _ _ = W9
      have hr := re5 HR1.out hW
      obtain ⟨⟨y0, y1, y2, y3, y4⟩, -⟩ := res5 hr.blk
      have HBB := hr.below HBW.out (by omega)
      clear hr hW
      refine bodyPost_ret (v := .tuple #[.agg #[.bool y6, .int .u64 yh, .int .u64 yl, .int .i64 yb, .string yn], .bool yf, .int .i64 0]) (by simp [results, Tryz.results21, go_sem, y0, y1, y2, y3, y4]) rfl ⟨rfl, HBB⟩
end Go.Proofs.YtollmagiifkicaaGreatDoor

namespace Go.Proofs.YtollmagiifkicaaGreatDoor
open Go.RowKit Go.Hw Go.Shelf

/-- The first place at which p holds, or -1. -/
def idxP {α : Type} (p : α → Bool) (xs : List α) : Int := match xs.findIdx? p with
  | some k => k
  | none => -1
theorem idxP_at {α : Type} {p : α → Bool} {xs : List α} {d : α} {k : Nat} (hk : k < xs.length) (h : ∀ j, j < k → p (xs.getD j d) = false) (ht : p (xs.getD k d) = true) : idxP p xs = k := by
  have : xs.findIdx? p = some k := by
    rw [List.findIdx?_eq_some_iff_getElem]
    refine ⟨hk, by simpa [List.getElem?_eq_getElem hk] using ht, fun j hj => ?_⟩
    have := h j hj
    simpa [List.getElem?_eq_getElem (Nat.lt_trans hj hk)] using this
  unfold idxP
  rw [this]
theorem idxP_none {α : Type} {p : α → Bool} {xs : List α} {d : α} (h : ∀ j, j < xs.length → p (xs.getD j d) = false) : idxP p xs = -1 := by
  have : xs.findIdx? p = none := by
    rw [List.findIdx?_eq_none_iff]
    intro x hx
    obtain ⟨j, hj, rfl⟩ := List.getElem_of_mem hx
    have := h j hj
    simpa [List.getElem?_eq_getElem hj] using this
  unfold idxP
  rw [this]
theorem idxP_any {α : Type} (p : α → Bool) (xs : List α) : (xs.any p = true ∧ 0 ≤ idxP p xs) ∨ (xs.any p = false ∧ idxP p xs = -1) := by
  unfold idxP
  cases h : xs.findIdx? p with
  | none =>
    right
    refine ⟨?_, rfl⟩
    rw [List.findIdx?_eq_none_iff] at h
    rw [List.any_eq_false]
    intro x hx
    simpa using h x hx
  | some k =>
    left
    refine ⟨?_, Int.natCast_nonneg _⟩
    obtain ⟨hk, hp, _⟩ := List.findIdx?_eq_some_iff_getElem.1 h
    rw [List.any_eq_true]
    exact ⟨_, List.getElem_mem hk, hp⟩

theorem run_eq_ld (d : Nat) (a b : Bool) (x y u v m n : Int) (s t : ByteArray) (w : World) : (Op.equalIn (d + 4) 61 (.agg #[.bool a, .int .u64 x, .int .u64 u, .int .i64 m, .string s]) (.agg #[.bool b, .int .u64 y, .int .u64 v, .int .i64 n, .string t])).run Tryz.prog w = .ok (decide ((⟨⟨a, x, u, m⟩, s⟩ : Ld) = ⟨⟨b, y, v, n⟩, t⟩)) w := by
  have hA : Tryz.prog.underlying 61 = some (.struct (Tryz.prog.fieldsOf 61)) := by kernel_rfl
  have pA : Tryz.prog.stoodInHeld 61 = false := by kernel_rfl
  have hx := run_eq_pf d a b x y u v m n
  have hst : (s.toList == t.toList) = decide (s = t) := by
    by_cases h : s = t
    · rw [h]; simp
    · rw [bytes_ne h, decide_eq_false h]
  rw [run_equalIn_agg w (d + 3) 61 _ _ hA pA]
  simp only [Program.fieldsOf, Tryz.underlying61]
  go_simp
  by_cases h1 : a = b <;> by_cases h2 : x = y <;> by_cases h3 : u = v <;> by_cases h4 : m = n <;> by_cases h5 : s = t <;> simp [h1, h2, h3, h4, h5]
theorem guard_ld : Tryz.prog.eqGuardType Tryz.prog.depth 61 = false := by kernel_rfl
theorem enters_lead : ∀ args w, (callFunc 19 args).run Tryz.prog w = .ok (.enter 19 args) w := enters_of Tryz.func19 (by kernel_rfl) rfl

set_option maxRecDepth 100000 in
set_option maxHeartbeats 1000000 in
theorem leadClos_any (x6 : Bool) (xh xl xb : Int) (xn : ByteArray) (y6 : Bool) (yh yl yb : Int) (yn : ByteArray) (yw : Int) (B : Nat) (w : World) (hb : w.heap[B]? = some (.cells #[.bool y6, .int .u64 yh, .int .u64 yl, .int .i64 yb, .string yn, .int .i64 yw] 41 (0, 0))) :
    Calls Tryz.prog 19 #[.agg #[.bool x6, .int .u64 xh, .int .u64 xl, .int .i64 xb, .string xn], .pointer (some ⟨B, 0, none⟩)] w fun e w' => e = .returned (.bool (decide ((⟨x6, xh, xl, xb⟩ : Pf) = ⟨y6, yh, yl, yb⟩))) ∧ Below w.heap.size w w' := by
  have hlt := lt_of_block hb
  have hB : Below w.heap.size w (w.alloc (.cells #[.bool x6, .int .u64 xh, .int .u64 xl, .int .i64 xb, .string xn] 61)) := (Below.refl _ _).alloc (Nat.le_refl _) _
  have c0 : w.cell? ⟨B, 0, none⟩ = some (.bool y6) := by simp only [World.cell?, hb]; rfl
  have c1 : w.cell? ⟨B, 1, none⟩ = some (.int .u64 yh) := by simp only [World.cell?, hb]; rfl
  have c2 : w.cell? ⟨B, 2, none⟩ = some (.int .u64 yl) := by simp only [World.cell?, hb]; rfl
  have c3 : w.cell? ⟨B, 3, none⟩ = some (.int .i64 yb) := by simp only [World.cell?, hb]; rfl
  have HB := Lib.hid hB
  have hgd := guard_pf
  clear hb hB
  by_cases he : (⟨x6, xh, xl, xb⟩ : Pf) = ⟨y6, yh, yl, yb⟩
  · have hq := fun W => (run_eq_pf 9997 x6 y6 xh yh xl yl xb yb W).trans (show _ = Result.ok true W from by rw [pf_beq, decide_eq_true he])
    rw [decide_eq_true he]
    clear he
    go_enter Tryz.func19, Tryz.ntmps19
    go_wp2_with fail
    go_ret
    exact ⟨rfl, HB.out⟩
  · have hq := fun W => (run_eq_pf 9997 x6 y6 xh yh xl yl xb yb W).trans (show _ = Result.ok false W from by rw [pf_beq, decide_eq_false he])
    rw [decide_eq_false he]
    clear he
    go_enter Tryz.func19, Tryz.ntmps19
    go_wp2_with fail
    go_ret
    exact ⟨rfl, HB.out⟩

/-- What is asked of a closure over leads. -/
def PredL (g : Nat) (lb : Array Value) (p : Ld → Bool) (L : List Ld) (w : World) : Prop :=
  ∀ (W : World) (x : Ld), x ∈ L → Below w.heap.size w W → Calls Tryz.prog g (#[.agg #[.bool x.pf.six, .int .u64 x.pf.hi, .int .u64 x.pf.lo, .int .i64 x.pf.bits, .string x.node]] ++ lb) W fun en w' => en = .returned (.bool (p x)) ∧ Below W.heap.size W w'

set_option maxRecDepth 100000 in
set_option maxHeartbeats 1000000 in
theorem idxLd_any (A : Option Addr) (cap : Nat) (L : List Ld) (g : Nat) (lb : Array Value) (p : Ld → Bool) (w : World) (eg : ∀ args w, (callFunc g args).run Tryz.prog w = .ok (.enter g args) w)
    (h : LdsAt w w.heap.size A L) (hl : L.length ≤ 1000000) (hp : PredL g lb p L w) :
    Calls Tryz.prog 18 #[.slice A L.length cap, .func (.func g) #[] lb] w fun e w' => e = .returned (.int .i64 (idxP p L)) ∧ Below w.heap.size w w' := by
  go_enter Tryz.func18, Tryz.ntmps18
  go_wp2_with fail
  go_loopw [8] (fun v wr => ∃ k : Nat, k ≤ L.length ∧ v = .int .i64 k ∧ (∀ j, j < k → p (L.getD j noLd) = false) ∧ Below w.heap.size w wr) (fun v _ => L.length - (intOf v).toNat)
  case atStart => exact ⟨0, Nat.zero_le _, rfl, fun j hj => by omega, Below.refl _ _⟩
  case round =>
    obtain ⟨k, hk, rfl, hf, hb⟩ := hrel
    have hlr := h.below hb
    by_cases hlt : k < L.length
    · obtain ⟨g5, rfl, hgB, c0, c1, c2, c3, c4⟩ := hlr k hlt
      have HCALL := hp wr (L.getD k noLd) (by rw [List.getD_eq_getElem?_getD, List.getElem?_eq_getElem hlt]; exact List.getElem_mem hlt) hb
      generalize hx : L.getD k noLd = x at *
      have HF := Lib.hid hf
      have HX := Lib.hid hx
      have HB := Lib.hid hb
      clear hf hx hp hb hlr h
      obtain ⟨⟨x6, xh, xl, xb⟩, xn⟩ := x
      dsimp only at c0 c1 c2 c3 c4 HCALL
      have hd : decide ((k : Int) < (L.length : Int)) = true := by simp; omega
      cases hq : p ⟨⟨x6, xh, xl, xb⟩, xn⟩
      · rw [hq] at HCALL
        go_wp2_with (go_at_fn g; refine HCALL.mono ?_; rintro e w1 ⟨rfl, hb1⟩)
        go_roundw
        case rel => exact ⟨k + 1, by omega, by go_num, fun j hj => (by
          by_cases e : j = k
          · rw [e, HX.out]; exact hq
          · exact HF.out j (by omega)), HB.out.trans (hb1.mono HB.out.size)⟩
        case measure => simp [intOf]; omega
      · rw [hq] at HCALL
        go_wp2_with (go_at_fn g; refine HCALL.mono ?_; rintro e w1 ⟨rfl, hb1⟩)
        go_ret
        exact ⟨ret_eq (idxP_at hlt HF.out (by rw [HX.out]; exact hq)).symm, HB.out.trans (hb1.mono HB.out.size)⟩
    · have : k = L.length := by omega
      subst this
      have HF := Lib.hid hf
      clear hf
      go_wp2_with fail
      go_ret
      exact ⟨ret_eq (idxP_none HF.out).symm, hb⟩

set_option maxRecDepth 100000 in
set_option maxHeartbeats 1000000 in
theorem indexLd_any (A : Option Addr) (cap : Nat) (L : List Ld) (y6 : Bool) (yh yl yb : Int) (yn : ByteArray) (w : World) (h : LdsAt w w.heap.size A L) (hl : L.length ≤ 1000000) :
    Calls Tryz.prog 64 #[.slice A L.length cap, .agg #[.bool y6, .int .u64 yh, .int .u64 yl, .int .i64 yb, .string yn]] w fun e w' => e = .returned (.int .i64 (idxP (fun x => decide ((⟨⟨y6, yh, yl, yb⟩, yn⟩ : Ld) = x)) L)) ∧ Below w.heap.size w w' := by
  have hB : Below w.heap.size w (w.alloc (.cells #[.bool y6, .int .u64 yh, .int .u64 yl, .int .i64 yb, .string yn] 61)) := (Below.refl _ _).alloc (Nat.le_refl _) _
  have hx : (w.alloc (.cells #[.bool y6, .int .u64 yh, .int .u64 yl, .int .i64 yb, .string yn] 61)).heap[w.heap.size]? = some (.cells #[.bool y6, .int .u64 yh, .int .u64 yl, .int .i64 yb, .string yn] 61 (0, 0)) := heap_alloc_new w _
  have hlw : w.heap.size < (w.alloc (.cells #[.bool y6, .int .u64 yh, .int .u64 yl, .int .i64 yb, .string yn] 61)).heap.size := by simp
  have H := Lib.hid h
  have HX := Lib.hid hx
  have HB := Lib.hid hB
  have hgd := guard_ld
  clear h hx hB
  go_enter Tryz.func64, Tryz.ntmps64
  go_wp2_with fail
  generalize World.alloc w _ = W at *
  go_loopw [8] (fun v wr => ∃ k : Nat, k ≤ L.length ∧ v = .int .i64 k ∧ (∀ j, j < k → decide ((⟨⟨y6, yh, yl, yb⟩, yn⟩ : Ld) = L.getD j noLd) = false) ∧ Below W.heap.size W wr) (fun v _ => L.length - (intOf v).toNat)
  case atStart => exact ⟨0, Nat.zero_le _, rfl, fun j hj => by omega, Below.refl _ _⟩
  case round =>
    obtain ⟨k, hk, rfl, hf, hb⟩ := hrel
    have hbw := HB.out.trans (hb.mono (Nat.le_of_lt hlw))
    by_cases hlt : k < L.length
    · obtain ⟨g5, rfl, hgB, c0, c1, c2, c3, c4⟩ := (H.out.below hbw) k hlt
      have q0 := (hb.block _ hlw).trans HX.out
      obtain ⟨⟨d0, d1, d2, d3, d4⟩, -⟩ := res5 q0
      generalize hx : L.getD k noLd = x at *
      have HF := Lib.hid hf
      have HXX := Lib.hid hx
      have HBB := Lib.hid hb
      have HBW := Lib.hid hbw
      clear hf hx hb hbw q0
      obtain ⟨⟨x6, xh, xl, xb⟩, xn⟩ := x
      dsimp only at c0 c1 c2 c3 c4
      have hd : decide ((k : Int) < (L.length : Int)) = true := by simp; omega
      have hq := run_eq_ld 9996 y6 x6 yh xh yl xl yb xb yn xn
      cases hqq : decide ((⟨⟨y6, yh, yl, yb⟩, yn⟩ : Ld) = ⟨⟨x6, xh, xl, xb⟩, xn⟩)
      · rw [hqq] at hq
        have HQ := Lib.hid hqq
        clear hqq
        go_wp2_with fail
        go_quiet (fail)
        go_wp2_with fail
        go_roundw
        case rel => exact ⟨k + 1, by omega, by go_num, fun j hj => (by
          by_cases e : j = k
          · rw [e, HXX.out]; exact HQ.out
          · exact HF.out j (by omega)), below_dn HBB.out _⟩
        case measure => simp [intOf]; omega
      · rw [hqq] at hq
        have HQ := Lib.hid hqq
        clear hqq
        go_wp2_with fail
        go_quiet (fail)
        go_wp2_with fail
        go_ret
        exact ⟨ret_eq (idxP_at hlt HF.out (by rw [HXX.out]; exact HQ.out)).symm, below_dn HBW.out _⟩
    · have : k = L.length := by omega
      subst this
      have HF := Lib.hid hf
      clear hf
      go_wp2_with fail
      go_ret
      exact ⟨ret_eq (idxP_none HF.out).symm, hbw⟩

set_option maxRecDepth 100000 in
set_option maxHeartbeats 1000000 in
theorem containsLd_any (A : Option Addr) (cap : Nat) (L : List Ld) (y6 : Bool) (yh yl yb : Int) (yn : ByteArray) (w : World) (h : LdsAt w w.heap.size A L) (hl : L.length ≤ 1000000) (hm : (⟨⟨y6, yh, yl, yb⟩, yn⟩ : Ld) ∈ L) :
    Calls Tryz.prog 23 #[.slice A L.length cap, .agg #[.bool y6, .int .u64 yh, .int .u64 yl, .int .i64 yb, .string yn]] w fun e w' => e = .returned (.bool true) ∧ Below w.heap.size w w' := by
  have hB : Below w.heap.size w (w.alloc (.cells #[.bool y6, .int .u64 yh, .int .u64 yl, .int .i64 yb, .string yn] 61)) := (Below.refl _ _).alloc (Nat.le_refl _) _
  have h1 := indexLd_any A cap L y6 yh yl yb yn (w.alloc (.cells #[.bool y6, .int .u64 yh, .int .u64 yl, .int .i64 yb, .string yn] 61)) ((h.below hB).wide hB.size) hl
  have hi : 0 ≤ idxP (fun x => decide ((⟨⟨y6, yh, yl, yb⟩, yn⟩ : Ld) = x)) L := by
    rcases idxP_any (fun x => decide ((⟨⟨y6, yh, yl, yb⟩, yn⟩ : Ld) = x)) L with h2 | h2
    · exact h2.2
    · have := List.any_eq_false.1 h2.1 _ hm
      simp at this
  have HB := Lib.hid hB
  clear h hB hm
  generalize idxP (fun x => decide ((⟨⟨y6, yh, yl, yb⟩, yn⟩ : Ld) = x)) L = z at *
  have hz : decide (0 ≤ z) = true := by simpa using hi
  go_enter Tryz.func23, Tryz.ntmps23
  go_wp2_with fail
  refine h1.mono ?_
  rintro e w1 ⟨rfl, hb1⟩
  have HB1 := Lib.hid (HB.out.trans (hb1.mono HB.out.size))
  clear h1 hb1
  go_wp2_with fail
  go_ret
  exact ⟨rfl, HB1.out⟩
end Go.Proofs.YtollmagiifkicaaGreatDoor
