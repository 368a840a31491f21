/- FirstsAreUp: the walk. -/
import Derived.Test.YtollmagiifkicaaGreatDoorFuF
import Derived.Test.YtollmagiifkicaaGreatDoorReady
namespace Go.Proofs.YtollmagiifkicaaGreatDoor
open Go.RowKit Go.Hw Go.Shelf

theorem Str.below {w w' : World} {b : Nat} {A : Option Addr} {cap : Nat} {l : List Int} {x : Int} (h : Str w b A cap l x) (hb : Below w.heap.size w w') : Str w' b A cap l x := h.grown (grownB hb none) (fun k e => by cases e)
theorem drew_right {w w' : World} {r : Option Nat} (h : w.grownBy w' r) : w.grownBy w'.drew r := ⟨h.os, h.tape, h.output, h.size, h.block⟩
theorem grown_then {w w1 w2 : World} {r : Option Nat} (h : w.grownBy w1 r) (h2 : w1.grownBy w2 r) : w.grownBy w2 r := h.andThen h2 (fun _ h => .inr h)
theorem rts_below {w w' : World} {b : Nat} {base : Nat} {v : Value} {l : List Rt} (h : RtsOwn w base v l) (hg : w.grownBy w' (some b)) (hn : v.ownBlock ≠ some b) : RtsOwn w' base v l := World.ownsRow.kept h hg (.inr hn)


theorem up_told {l : List Hl} {n : ByteArray} {t : Int} (h : upAt l n t = true) : ∃ x ∈ l, x.node = n := by
  by_cases h1 : ∃ x ∈ l, x.node = n
  · exact h1
  · rw [upAt_empty (fun x hx e => h1 ⟨x, hx, e⟩)] at h
    cases h
theorem hl_mem {l : List Hl} {x : Hl} (hx : x ∈ l) : ∃ i, i < l.length ∧ l.getD i noHl = x := by
  obtain ⟨i, hi, e⟩ := List.getElem_of_mem hx
  exact ⟨i, hi, by rw [List.getD_eq_getElem?_getD, List.getElem?_eq_getElem hi]; simpa using e⟩
/-- Who is up has a name. -/
theorem up_key {r : List Rt} {l : List Hl} (F : LogFine r l) {n : ByteArray} {t : Int} (h : upAt l n t = true) : isKey n = true ∧ n.size ≤ maxLen := by
  obtain ⟨x, hx, rfl⟩ := up_told h
  obtain ⟨i, hi, rfl⟩ := hl_mem hx
  exact ⟨(hl_of (hl_parts F.lf F.ll hi)).2.1, F.ls i⟩
theorem rt_key {r : List Rt} {l : List Hl} (F : LogFine r l) {i : Nat} (hi : i < r.length) : isKey (r.getD i noRt).node = true ∧ (r.getD i noRt).node.size ≤ maxLen :=
  ⟨(rt_of (rt_parts F.rf F.rl hi)).2.1, by have := (rtT_at F.rt i).node; unfold maxLen; omega⟩
theorem pf_fine2 {r : List Rt} {l : List Hl} (F : LogFine r l) {y : Rt} (hy : y ∈ r) : pfCode y.pf.six y.pf.hi y.pf.lo y.pf.bits = 0 ∧ U64 y.pf.hi ∧ U64 y.pf.lo := by
  obtain ⟨i, hi, rfl⟩ := rt_mem hy
  exact ⟨(rt_of (rt_parts F.rf F.rl hi)).1, (rtT_at F.rt i).hi, (rtT_at F.rt i).lo⟩

set_option maxRecDepth 100000 in
set_option maxHeartbeats 4000000 in
theorem firstsUp_any (A : Option Addr) (cap : Nat) (l : List Int) (w : World) (hA : ∀ i, i < l.length → ∃ g off, A = some ⟨g, off, none⟩ ∧ g < w.heap.size ∧ w.cell? ⟨g, off + i, none⟩ = some (.int .i64 (l.getD i 0)))
    (hfits : ∀ i, -9223372036854775808 ≤ l.getD i 0 ∧ l.getD i 0 ≤ 9223372036854775807) (hlong : l.length ≤ 17592186044416) :
    Calls Tryz.prog 4 #[.slice A l.length cap] w fun e w' => e = .returned (.bool true) ∧ Below w.heap.size w w' := by
  have hs0 : Str (w.alloc (.cells #[.slice A l.length cap, .int .i64 0] 25)) w.heap.size A cap l 0 := {
    cell := heap_alloc_new w _
    ints := fun i hi => by
      obtain ⟨g, off, h1, h2, h3⟩ := hA i hi
      exact ⟨g, off, h1, h2, by rw [World.cell?_alloc_lt _ _ _ h2]; exact h3⟩
    fits := hfits
    long := hlong
    low := by omega
    high := by omega }
  have hB0 : Below w.heap.size w (w.alloc (.cells #[.slice A l.length cap, .int .i64 0] 25)) := (Below.refl _ _).alloc (Nat.le_refl _) _
  have HS := Lib.hid hs0
  have HB := Lib.hid hB0
  clear hs0 hB0 hA hfits
  go_enter Tryz.func4, Tryz.ntmps4
  go_wp2_with fail
  generalize hW : World.alloc _ _ = W1 at HS HB ⊢
  clear hW
  have hlt1 := HS.out.lt
  refine (routers_any w.heap.size A cap l 0 W1 HS.out (by omega)).mono ?_
  rintro e W2 ⟨v, rfl, xs, x2, ho2, hs2, hg2, hxl, hxb, hxs⟩
  have HB2 := Lib.hid (HB.out.grown hg2 HB.out.size (fun j e => by injection e with e; omega))
  have hnb := own_ne ho2 hlt1
  have HXT := Lib.hid hxs
  clear HS HB hg2 hxs
  go_wp2_with fail
  refine (range_any w.heap.size A cap l x2 0 8 W2 hs2 (by omega) (by omega) (by omega) (by omega) (by omega)).mono ?_
  rintro e W3 ⟨rfl, hs3, hg3⟩
  have d1 := draw_low l x2 (8 - 0 + 1) (by omega)
  have d2 := draw_high l x2 (8 - 0 + 1) (by omega)
  generalize drawOf l x2 (8 - 0 + 1) = d at *
  obtain ⟨m, rfl⟩ := Int.eq_ofNat_of_zero_le d1
  have HB3 := Lib.hid (HB2.out.grown hg3 HB2.out.size (fun j e => by injection e with e; omega))
  have ho3 := rts_below ho2 hg3 hnb
  have hlt3 := hs3.lt
  rw [show (0 : Int) + (m : Int) = (m : Nat) from by omega]
  clear hs2 hg3 ho2 HB2 d1
  go_wp2_with fail
  refine (healthLog_any w.heap.size A cap l (x2 + 1) W3 hs3 (by omega) m (by omega)).mono ?_
  rintro e W4 ⟨vh, rfl, hs, x4, hoh, hs4, hg4, hhl, hhb, hhs⟩
  have HB4 := Lib.hid (HB3.out.grown hg4 HB3.out.size (fun j e => by injection e with e; omega))
  have ho4 := rts_below ho3 hg4 hnb
  have hnh := own_ne hoh hlt3
  have HHS := Lib.hid (fun i => (show (hs.getD i noHl).node.size ≤ maxLen from by
    by_cases h : i < hs.length
    · rw [List.getD_eq_getElem?_getD, List.getElem?_eq_getElem h]
      have := hhs _ (List.getElem_mem h)
      simp only [Option.getD_some]
      unfold maxLen
      omega
    · rw [List.getD_eq_getElem?_getD, List.getElem?_eq_none (by omega)]
      simp [noHl, maxLen]))
  clear hs3 hg4 ho3 HB3 hhs
  have hnl := hs4.low
  go_wp2_with fail
  refine (next_any w.heap.size A cap l x4 200 W4 hs4 (by omega) (by omega) (by omega)).mono ?_
  rintro e W5 ⟨rfl, hs5, hg5⟩
  have t1 := draw_low l x4 200 (by omega)
  have t2 := draw_high l x4 200 (by omega)
  generalize drawOf l x4 200 = t at *
  have HB5 := Lib.hid (HB4.out.grown hg5 HB4.out.size (fun j e => by injection e with e; omega))
  have ho5 := rts_below ho4 hg5 hnb
  have hoh5 : W5.ownsRow W3.heap.size 80 3 vh hs.length (hlsCells hs) := World.ownsRow.kept hoh hg5 (.inr hnh)
  clear hs4 hg5 ho4 hoh HB4
  go_wp2_with fail
  refine (addr_any w.heap.size A cap l (x4 + 1) W5 hs5 (by omega)).mono ?_
  rintro e W6 ⟨a6, ah, al, rfl, hfa, x6, hx6a, hx6b, hs6, hg6⟩
  have HB6 := Lib.hid (HB5.out.grown hg6 HB5.out.size (fun j e => by injection e with e; omega))
  have ho6 := rts_below ho5 hg6 hnb
  have hoh6 : W6.ownsRow W3.heap.size 80 3 vh hs.length (hlsCells hs) := World.ownsRow.kept hoh5 hg6 (.inr hnh)
  obtain ⟨AR, cR, rfl, hatR⟩ := rts_own_at ho6
  obtain ⟨AH, cH, rfl, hatH⟩ := hls_at hoh6
  have HR6 := Lib.hid hatR
  have HH6 := Lib.hid hatH
  have hac := hfa.code
  have uh : U64 ah := hfa.1
  have ul : U64 al := hfa.2.1
  have hB7 := HB6.out.alloc HB6.out.size (addrBox a6 ah al)
  have h67 : Below W6.heap.size W6 (W6.alloc (addrBox a6 ah al)) := (Below.refl _ _).alloc (Nat.le_refl _) _
  have HR7 := Lib.hid ((HR6.out.below h67).wide h67.size)
  have HH7 := Lib.hid ((HH6.out.below h67).wide h67.size)
  have HA7 := Lib.hid (heap_alloc_new W6 (.cells #[.bool a6, .int .u64 ah, .int .u64 al] 37))
  have HB7 := Lib.hid hB7
  have hlt7 : W6.heap.size < (W6.alloc (addrBox a6 ah al)).heap.size := by simp
  unfold addrBox at HR7 HH7 HB7 hlt7
  clear hs5 hg6 ho5 hoh5 HB5 hs6 ho6 hoh6 hatR hatH hfa HR6 HH6 HB6 hB7 h67
  go_wp2_with fail
  generalize World.alloc W6 _ = W7 at *
  refine (routersFault_any AR cR xs W7 HR7.out (by omega) HXT.out).mono ?_
  rintro e W8 ⟨rfl, hb8⟩
  have HB8 := Lib.hid (HB7.out.trans (hb8.mono HB7.out.size))
  have HR8 := Lib.hid ((HR7.out.below hb8).wide hb8.size)
  have HH8 := Lib.hid ((HH7.out.below hb8).wide hb8.size)
  have HA8 := Lib.hid ((hb8.block W6.heap.size hlt7).trans HA7.out)
  have hlt8 : W6.heap.size < W8.heap.size := Nat.lt_of_lt_of_le hlt7 hb8.size
  clear hb8 HB7 HR7 HH7 HA7 hlt7
  by_cases hf : rtFault xs = 0
  rotate_left
  · have hcc : (rtFault xs != 0) = true := by simpa using hf
    clear hf
    go_wp2_with fail
    refine Calls.mono (ready_true W8) ?_
    rintro _ W9 ⟨rfl, hb9⟩
    have HB9 := Lib.hid (HB8.out.trans (hb9.mono HB8.out.size))
    clear hb9
    go_wp2_with fail
    go_ret
    exact ⟨rfl, HB9.out⟩
  have HF := Lib.hid hf
  rw [hf]
  clear hf
  go_wp2_with fail
  refine (healthFault_any AH cH hs W8 HH8.out (by omega) HHS.out).mono ?_
  rintro e W9 ⟨rfl, hb9⟩
  have HB9 := Lib.hid (HB8.out.trans (hb9.mono HB8.out.size))
  have HR9 := Lib.hid ((HR8.out.below hb9).wide hb9.size)
  have HH9 := Lib.hid ((HH8.out.below hb9).wide hb9.size)
  have HA9 := Lib.hid ((hb9.block W6.heap.size hlt8).trans HA8.out)
  have hlt9 : W6.heap.size < W9.heap.size := Nat.lt_of_lt_of_le hlt8 hb9.size
  clear hb9 HB8 HR8 HH8 HA8 hlt8
  by_cases hf : hlFault hs = 0
  rotate_left
  · have hcc : (hlFault hs != 0) = true := by simpa using hf
    clear hf
    go_wp2_with fail
    refine Calls.mono (ready_true W9) ?_
    rintro _ W10 ⟨rfl, hb10⟩
    have HB10 := Lib.hid (HB9.out.trans (hb10.mono HB9.out.size))
    clear hb10
    go_wp2_with fail
    go_ret
    exact ⟨rfl, HB10.out⟩
  have FF : LogFine xs hs := ⟨by omega, HXT.out, HF.out, by omega, HHS.out, hf⟩
  have HFF := Lib.hid FF
  rw [hf]
  have h1 := Firsts_any AR cR xs AH cH hs t W9 HR9.out HH9.out FF (by omega)
  clear hf FF HF HHS HXT
  go_wp2_with fail
  refine h1.mono ?_
  rintro e w1 ⟨vL, rfl, hO, hb1⟩
  obtain ⟨AL, cL, rfl, hatL⟩ := lds_at hO
  have HL1 := Lib.hid hatL
  have HB1 := Lib.hid (HB9.out.trans (hb1.mono HB9.out.size))
  have HR1 := Lib.hid ((HR9.out.below hb1).wide hb1.size)
  have HH1 := Lib.hid ((HH9.out.below hb1).wide hb1.size)
  have HA1 := Lib.hid ((hb1.block W6.heap.size hlt9).trans HA9.out)
  have hla1 : W6.heap.size < w1.heap.size := Nat.lt_of_lt_of_le hlt9 hb1.size
  have hll : (leadsP xs hs t).length ≤ 500 := Nat.le_trans (leads_len hs t (groupsP xs)) (Nat.le_trans (grouped xs).many HFF.out.rl)
  have HIU := Lib.hid (fun (n : ByteArray) (hk : isKey n = true) (hn : n.size ≤ maxLen) (tt : Int) (htt : 0 ≤ tt ∧ tt < 345686400) (W : World) (hb : Below w1.heap.size w1 W) => IsUp_any AH cH hs n tt W ((HH1.out.below hb).wide hb.size) HFF.out.ll HFF.out.ls HFF.out.lf hk hn htt)
  have hrf := rt_fine HFF.out.rf HFF.out.rl
  have hlf := hl_fine HFF.out.lf HFF.out.ll
  obtain ⟨hpf, hord⟩ := rt_order HFF.out.rf HFF.out.rl HFF.out.rt
  have HUP := Lib.hid (fun (k : Nat) (hk : k < xs.length) (hu : upAt hs (xs.getD k noRt).node t = true) => (show 0 ≤ idxP (fun z : Ld => decide (z.pf = (xs.getD k noRt).pf)) (leadsP xs hs t) from by
    have hm : xs.getD k noRt ∈ xs := by rw [List.getD_eq_getElem?_getD, List.getElem?_eq_getElem hk]; exact List.getElem_mem hk
    obtain ⟨z, hz, e⟩ := lead_up hrf hlf (t := t) (by omega) (by unfold endT; omega) hm hu
    rcases idxP_any (fun z : Ld => decide (z.pf = (xs.getD k noRt).pf)) (leadsP xs hs t) with h2 | h2
    · exact h2.2
    · have := List.any_eq_false.1 h2.1 z hz
      simp [e] at this))
  have HLD := Lib.hid (fun (z : Ld) (hz : z ∈ leadsP xs hs t) => lead_is hrf hlf hord hpf (t := t) (by omega) (by unfold endT; omega) hz)
  clear h1 hO hb1 hatL HB9 HR9 HH9 HA9 hlt9 hrf hlf hpf hord
  generalize hLe : leadsP xs hs t = L at *
  have HLE := Lib.hid hLe
  clear hLe
  go_wp2_with fail
  go_loopw [61] (fun v61 wr => ∃ k : Nat, k ≤ xs.length ∧ v61 = .int .i64 k ∧ Below w1.heap.size w1 wr) (fun v61 _ => xs.length - (intOf v61).toNat)
  case atStart => exact ⟨0, by omega, rfl, Below.refl _ _⟩
  case round =>
    obtain ⟨k, hk, rfl, hb⟩ := hrel
    by_cases hlt : k < xs.length
    · obtain ⟨g, off, rfl, hg, c0, c1, c2, c3, c4, c5⟩ := (HR1.out.below hb) k hlt
      have key := rt_key HFF.out hlt
      have hup := HUP.out k hlt
      generalize xs.getD k noRt = y at *
      obtain ⟨y6, yh, yl, yb, yn, yw⟩ := y
      dsimp only at c0 c1 c2 c3 c4 c5 key hup
      have hup' : upAt hs yn t = true → 0 ≤ idxP (fun z : Ld => decide (z.pf = ⟨y6, yh, yl, yb⟩)) L := hup
      have hb2 := hb.alloc hb.size (.cells #[.bool y6, .int .u64 yh, .int .u64 yl, .int .i64 yb, .string yn, .int .i64 yw] 41)
      have hN := heap_alloc_new wr (.cells #[.bool y6, .int .u64 yh, .int .u64 yl, .int .i64 yb, .string yn, .int .i64 yw] 41)
      have hnl : wr.heap.size < (wr.alloc (.cells #[.bool y6, .int .u64 yh, .int .u64 yl, .int .i64 yb, .string yn, .int .i64 yw] 41)).heap.size := by simp
      have hiu := HIU.out yn key.1 key.2 t (by omega) _ hb2
      have HBW := Lib.hid hb2
      have HN := Lib.hid hN
      have HUP' := Lib.hid hup'
      clear hup hup' hb hb2 hN key
      go_wp2_with fail
      clear c0 c1 c2 c3 c4 c5
      generalize World.alloc wr _ = W at *
      refine hiu.mono ?_
      rintro e w5 ⟨rfl, hb5⟩
      have HB5 := Lib.hid (HBW.out.trans (hb5.mono HBW.out.size))
      have HN5 := Lib.hid ((hb5.block _ hnl).trans HN.out)
      have hix := idxLd_any AL cL L 19 #[.pointer (some ⟨wr.heap.size, 0, none⟩)] (fun z => decide (z.pf = ⟨y6, yh, yl, yb⟩)) w5 enters_lead ((HL1.out.below HB5.out).wide HB5.out.size) (by omega) (fun V z _ hV => leadClos_any z.pf.six z.pf.hi z.pf.lo z.pf.bits z.node y6 yh yl yb yn yw wr.heap.size V ((hV.block _ (lt_of_block HN5.out)).trans HN5.out))
      have HUPB := HUP'.out
      clear hiu hb5 HN HBW HUP' HN5
      generalize idxP (fun z : Ld => decide (z.pf = ⟨y6, yh, yl, yb⟩)) L = iz at *
      generalize upAt hs yn t = up at *
      go_wp2_with fail
      refine hix.mono ?_
      rintro e w6 ⟨rfl, hb6⟩
      have HB6 := Lib.hid (HB5.out.trans (hb6.mono HB5.out.size))
      clear hix hb6 HB5
      cases up
      · clear HUPB
        go_wp2_with fail
        go_roundw
        case rel => exact ⟨k + 1, hlt, by go_num, HB6.out⟩
        case measure => simp [intOf]; omega
      · have hiz : decide (iz < 0) = false := by have := HUPB rfl; simp; omega
        clear HUPB
        go_wp2_with fail
        go_roundw
        case rel => exact ⟨k + 1, hlt, by go_num, HB6.out⟩
        case measure => simp [intOf]; omega
    · have hkk : k = xs.length := by omega
      subst hkk
      have HB2 := Lib.hid hb
      clear hb hk hlt HUP
      go_wp2_with fail
      go_loopw [88] (fun v88 wq => ∃ k : Nat, k ≤ L.length ∧ v88 = .int .i64 k ∧ Below w1.heap.size w1 wq) (fun v88 _ => L.length - (intOf v88).toNat)
      case atStart => exact ⟨0, by omega, rfl, HB2.out⟩
      case round =>
        clear HB2
        obtain ⟨k, hk, rfl, hb⟩ := hrel
        by_cases hlt : k < L.length
        · obtain ⟨g, rfl, hg, c0, c1, c2, c3, c4⟩ := (HL1.out.below hb) k hlt
          have hm : L.getD k noLd ∈ L := by rw [List.getD_eq_getElem?_getD, List.getElem?_eq_getElem hlt]; exact List.getElem_mem hlt
          obtain ⟨hu, hsz, own, hown, hstay, y, hy, hyp⟩ := HLD.out _ hm
          have key := up_key HFF.out hu
          have hpc := pf_fine2 HFF.out hy
          rw [hyp] at hpc
          clear hm hy hyp
          generalize L.getD k noLd = x at *
          obtain ⟨⟨x6, xh, xl, xb⟩, xn⟩ := x
          dsimp only at c0 c1 c2 c3 c4 key hu hsz hown hstay hpc
          have hb2 := hb.alloc hb.size (.cells #[.bool x6, .int .u64 xh, .int .u64 xl, .int .i64 xb, .string xn] 61)
          have hN := heap_alloc_new wr (.cells #[.bool x6, .int .u64 xh, .int .u64 xl, .int .i64 xb, .string xn] 61)
          have hnl : wr.heap.size < (wr.alloc (.cells #[.bool x6, .int .u64 xh, .int .u64 xl, .int .i64 xb, .string xn] 61)).heap.size := by simp
          have hiu := HIU.out xn key.1 key.2 t (by omega) _ hb2
          have HIV := Lib.hid (fun W hW => HIU.out xn key.1 key.2 (t + 1) (by omega) W hW)
          have HBW := Lib.hid hb2
          have HN := Lib.hid hN
          have HU := Lib.hid hu
          have HSZ := Lib.hid hsz
          have HOWN := Lib.hid hown
          have HSTAY := Lib.hid hstay
          clear hb hb2 hN key hu hsz hown hstay
          go_wp2_with fail
          clear c0 c1 c2 c3 c4
          generalize World.alloc wr _ = W at *
          refine hiu.mono ?_
          rintro e w5 ⟨rfl, hb5⟩
          rw [HU.out]
          have HB5 := Lib.hid (HBW.out.trans (hb5.mono HBW.out.size))
          have q5 := (hb5.block _ hnl).trans HN.out
          have HN5 := Lib.hid q5
          obtain ⟨⟨e0, e1, e2, e3, e4⟩, -⟩ := res5 q5
          have hft := First_any AR cR xs AH cH hs x6 xh xl xb (t + 1) own w5 ((HR1.out.below HB5.out).wide HB5.out.size) ((HH1.out.below HB5.out).wide HB5.out.size) HFF.out hpc.2.1 hpc.2.2 hpc.1 HOWN.out (by omega)
          have st : IntKind.i64.wrap (t + 1) = t + 1 := IntWalk.i64_in _ (by omega)
          clear hiu hb5 HBW HN q5
          go_wp2_with fail
          clear e0 e1 e2 e3 e4
          refine hft.mono ?_
          rintro e w6 ⟨rfl, hb6⟩
          have HB6 := Lib.hid (HB5.out.trans (hb6.mono HB5.out.size))
          have q6 := (hb6.block _ (lt_of_block HN5.out)).trans HN5.out
          have HN6 := Lib.hid q6
          obtain ⟨⟨e0, e1, e2, e3, e4⟩, -⟩ := res5 q6
          have hiv := HIV.out w6 HB6.out
          clear hft hb6 HB5 HN5 q6 HIV
          go_wp2_with fail
          clear e0 e1 e2 e3 e4
          refine hiv.mono ?_
          rintro e w7 ⟨rfl, hb7⟩
          have HB7 := Lib.hid (HB6.out.trans (hb7.mono HB6.out.size))
          have q7 := (hb7.block _ (lt_of_block HN6.out)).trans HN6.out
          obtain ⟨⟨e0, e1, e2, e3, e4⟩, -⟩ := res5 q7
          have HST := HSTAY.out
          clear hiv hb7 HB6 HN6 q7 st HSTAY HOWN
          generalize upAt hs xn (t + 1) = up at *
          generalize whoP (turnsP own hs) (t + 1) = who at *
          cases up
          · clear HST
            go_wp2_with fail
            go_roundw
            case rel => exact ⟨k + 1, hlt, by go_num, HB7.out⟩
            case measure => simp [intOf]; omega
          · have hwe : who = xn := HST rfl
            subst hwe
            have hfc : firstCode who = 0 := if_neg HSZ.out
            clear HST
            rw [hfc]
            go_wp2_with fail
            go_roundw
            case rel => exact ⟨k + 1, hlt, by go_num, HB7.out⟩
            case measure => simp [intOf]; omega
        · have hkk : k = L.length := by omega
          subst hkk
          have HB2 := Lib.hid hb
          have q0 := (hb.block _ hla1).trans HA1.out
          obtain ⟨a0, a1, a2, -⟩ := res3 q0
          have HPF := Lib.hid (fun (z : Ld) (hz : z ∈ L) => (show pfCode z.pf.six z.pf.hi z.pf.lo z.pf.bits = 0 ∧ U64 z.pf.hi ∧ U64 z.pf.lo from by
            obtain ⟨_, _, _, _, _, y, hy, e⟩ := HLD.out z hz
            rw [← e]
            exact pf_fine2 HFF.out hy))
          obtain ⟨way, hway⟩ : ∃ way, wayP (fun p => holdsP p a6 ah al) L = way := ⟨_, rfl⟩
          have hw := Way_any AR cR xs AH cH hs a6 ah al t wr ((HR1.out.below hb).wide hb.size) ((HH1.out.below hb).wide hb.size) HFF.out uh ul hac (by omega) (by rw [HLE.out]; exact HPF.out) way (by rw [HLE.out]; exact hway)
          have hwi := way_is (fun p => holdsP p a6 ah al) L
          rw [hway] at hwi
          have HWI := Lib.hid hwi
          clear hb hk hlt q0 hwi hway HLD HIU
          obtain ⟨⟨⟨v6, vh, vl, vb⟩, vn⟩, vf⟩ := way
          dsimp only at hw HWI
          go_wp2_with fail
          clear a0 a1 a2
          refine hw.mono ?_
          rintro e w5 ⟨rfl, hb5⟩
          have HB5 := Lib.hid (HB2.out.trans (hb5.mono HB2.out.size))
          have hb6 := HB5.out.alloc HB5.out.size (.cells #[.bool v6, .int .u64 vh, .int .u64 vl, .int .i64 vb, .string vn] 61)
          have hV := heap_alloc_new w5 (.cells #[.bool v6, .int .u64 vh, .int .u64 vl, .int .i64 vb, .string vn] 61)
          have hlv : w5.heap.size < (w5.alloc (.cells #[.bool v6, .int .u64 vh, .int .u64 vl, .int .i64 vb, .string vn] 61)).heap.size := by simp
          have HBV := Lib.hid hb6
          have HV := Lib.hid hV
          clear hw hb5 HB5 hb6 hV HB2
          go_wp2_with fail
          generalize World.alloc w5 _ = W at *
          have hla2 : W6.heap.size < W.heap.size := Nat.lt_of_lt_of_le hla1 HBV.out.size
          have HAV := Lib.hid ((HBV.out.block _ hla1).trans HA1.out)
          go_loopw [154] (fun v154 wq => ∃ k : Nat, k ≤ L.length ∧ v154 = .int .i64 k ∧ Below W.heap.size W wq) (fun v154 _ => L.length - (intOf v154).toNat)
          case atStart => exact ⟨0, by omega, rfl, Below.refl _ _⟩
          case round =>
            obtain ⟨k, hk, rfl, hb⟩ := hrel
            have hbw := HBV.out.trans (hb.mono HBV.out.size)
            have qa := (hb.block _ hla2).trans HAV.out
            have qv := (hb.block _ hlv).trans HV.out
            by_cases hlt : k < L.length
            · obtain ⟨g, rfl, hg, c0, c1, c2, c3, c4⟩ := (HL1.out.below hbw) k hlt
              have hm : L.getD k noLd ∈ L := by rw [List.getD_eq_getElem?_getD, List.getElem?_eq_getElem hlt]; exact List.getElem_mem hlt
              have hpc := HPF.out _ hm
              have hwx := HWI.out.1 _ hm
              clear hm hbw
              generalize L.getD k noLd = x at *
              obtain ⟨⟨x6, xh, xl, xb⟩, xn⟩ := x
              dsimp only at c0 c1 c2 c3 c4 hpc hwx
              have hb2 := hb.alloc hb.size (.cells #[.bool x6, .int .u64 xh, .int .u64 xl, .int .i64 xb, .string xn] 61)
              have hN := heap_alloc_new wr (.cells #[.bool x6, .int .u64 xh, .int .u64 xl, .int .i64 xb, .string xn] 61)
              have hnl : wr.heap.size < (wr.alloc (.cells #[.bool x6, .int .u64 xh, .int .u64 xl, .int .i64 xb, .string xn] 61)).heap.size := by simp
              have hho := fun V => refHolds_any x6 xh xl xb a6 ah al V hpc.2.1 hpc.2.2 uh ul hpc.1
              obtain ⟨a0, a1, a2, -⟩ := res3 qa
              have hqa := lt_of_block qa
              have HQV := Lib.hid ((heap_alloc_old wr (.cells #[.bool x6, .int .u64 xh, .int .u64 xl, .int .i64 xb, .string xn] 61) (lt_of_block qv)).trans qv)
              have HBW := Lib.hid hb2
              have HN := Lib.hid hN
              clear hb hb2 hN qa qv
              go_wp2_with fail
              clear c0 c1 c2 c3 c4 a0 a1 a2
              generalize World.alloc wr _ = V at *
              refine (hho V).mono ?_
              rintro e w7 ⟨rfl, hb7⟩
              have HB7 := Lib.hid (HBW.out.trans (hb7.mono HBW.out.size))
              have q7 := (hb7.block _ hnl).trans HN.out
              have p7 := (hb7.block _ (lt_of_block HQV.out)).trans HQV.out
              obtain ⟨⟨e0, e1, e2, e3, e4⟩, -⟩ := res5 q7
              obtain ⟨⟨y0, y1, y2, y3, y4⟩, -⟩ := res5 p7
              clear hho hb7 HN HQV HBW q7 p7
              cases hhv : holdsP ⟨x6, xh, xl, xb⟩ a6 ah al
              · clear hwx
                go_wp2_with fail
                go_roundw
                case rel => exact ⟨k + 1, hlt, by go_num, HB7.out⟩
                case measure => simp [intOf]; omega
              · obtain ⟨hvf, hle⟩ := hwx hhv
                have hle' : decide (vb < xb) = false := by simp; omega
                subst hvf
                clear hwx hhv
                go_wp2_with fail
                go_roundw
                case rel => exact ⟨k + 1, hlt, by go_num, HB7.out⟩
                case measure => simp [intOf]; omega
            · have hkk : k = L.length := by omega
              subst hkk
              have hfin := HB1.out.trans (hbw.mono HB1.out.size)
              have HFIN := Lib.hid hfin
              have hwi2 := HWI.out.2
              have HBB := Lib.hid hbw
              obtain ⟨a0, a1, a2, -⟩ := res3 qa
              obtain ⟨⟨y0, y1, y2, y3, y4⟩, -⟩ := res5 qv
              have HQA := Lib.hid qa
              have HQV := Lib.hid qv
              clear hb hk hlt hfin hbw qa qv HWI
              cases vf
              · clear hwi2
                go_wp2_with fail
                refine Calls.mono (ready_true wr) ?_
                rintro _ W9 ⟨rfl, hb9⟩
                have HB9 := Lib.hid (HFIN.out.trans (hb9.mono HFIN.out.size))
                clear hb9
                go_wp2_with fail
                go_ret
                exact ⟨rfl, HB9.out⟩
              · obtain ⟨hmem, hhold⟩ := hwi2 rfl
                have hpc := HPF.out _ hmem
                dsimp only at hpc hhold
                have hco := containsLd_any AL cL L v6 vh vl vb vn wr ((HL1.out.below HBB.out).wide HBB.out.size) (by omega) hmem
                have hho := fun V => refHolds_any v6 vh vl vb a6 ah al V hpc.2.1 hpc.2.2 uh ul hpc.1
                clear hwi2 hmem
                go_wp2_with fail
                refine hco.mono ?_
                rintro e w7 ⟨rfl, hb7⟩
                have HB7 := Lib.hid (HFIN.out.trans (hb7.mono HFIN.out.size))
                have q7 := (hb7.block _ (lt_of_block HQA.out)).trans HQA.out
                have p7 := (hb7.block _ (lt_of_block HQV.out)).trans HQV.out
                clear a0 a1 a2 y0 y1 y2 y3 y4
                obtain ⟨a0, a1, a2, -⟩ := res3 q7
                obtain ⟨⟨y0, y1, y2, y3, y4⟩, -⟩ := res5 p7
                clear hco hb7 q7 p7
                go_wp2_with fail
                refine (hho w7).mono ?_
                rintro e w8 ⟨rfl, hb8⟩
                rw [hhold]
                have HB8 := Lib.hid (HB7.out.trans (hb8.mono HB7.out.size))
                clear hb8 hho
                go_wp2_with fail
                refine Calls.mono (ready_true w8) ?_
                rintro _ W9 ⟨rfl, hb9⟩
                have HB9 := Lib.hid (HB8.out.trans (hb9.mono HB8.out.size))
                clear hb9
                go_wp2_with fail
                go_ret
                exact ⟨rfl, HB9.out⟩
end Go.Proofs.YtollmagiifkicaaGreatDoor
