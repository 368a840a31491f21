/- filter.Tracker: see. -/
import Derived.Test.YtgmeblgfcmkcgaaGreatDoorTkT
import Derived.Test.YtgmeblgfcmkcgaaGreatDoorPkE
namespace Go.Proofs.YtgmeblgfcmkcgaaGreatDoor
open Go.RowKit Go.Hw

/-- A tracker without rows, at the law's times, whose list is L. -/
structure TkrAt (w : World) (T : Nat) (last : Int) (A : Option Addr) (cap : Nat) (L : List Tk) : Prop where
  blk : w.heap[T]? = some (.cells (tkB last A L.length cap) 61 (0, 0))
  own : tkOwn w 0 (.slice A L.length cap) L
  ne : (Value.slice A L.length cap).ownBlock ≠ some T
  fine : ∀ x ∈ L, 0 ≤ x.last ∧ x.last ≤ 100000
  len : L.length ≤ 1
def tkF (T : Nat) (A : Option Addr) (k : Nat) : Prop := k = T ∨ (Value.slice A 0 0).ownBlock = some k
theorem gr_blk {X w' : World} {r : Option Nat} {k : Nat} {o : Obj} (hg : X.grownBy w' r) (h : X.heap[k]? = some o) (hn : r ≠ some k) : w'.heap[k]? = some o := (hg.block k (lt_of_block h) (fun e => hn e.symm)).trans h
/-- Behind the flows that have ended. -/
structure SeeMid (w wc : World) (T : Nat) (at_ : Int) (A : Option Addr) (cap : Nat) (K : List Tk) (p : Pk) : Prop where
  blk : wc.heap[T]? = some (.cells (tkB at_ A K.length cap) 61 (0, 0))
  own : tkOwn wc 0 (.slice A K.length cap) K
  ne : (Value.slice A K.length cap).ownBlock ≠ some T
  h3 : wc.heap[w.heap.size]? = some (.cells #[.pointer (some ⟨T, 0, none⟩)] 28 (0, 0))
  h4 : wc.heap[w.heap.size + 1]? = some (.cells (pkA p) 37 (0, 0))
  h5 : wc.heap[w.heap.size + 1 + 1]? = some (.cells #[.int .i64 at_] 3 (0, 0))
  chg : Rchg (tkF T A) w wc
theorem own_cut {A : Option Addr} {n m cap : Nat} : (Value.slice A n cap).ownBlock = (Value.slice A m cap).ownBlock := by cases A <;> rfl
theorem own_cut0 {A : Option Addr} {n cap : Nat} : (Value.slice A n cap).ownBlock = (Value.slice A 0 0).ownBlock := by cases A <;> rfl
theorem see_mid {w W0 W1 W2 W9 : World} {T : Nat} {at_ : Int} {A : Option Addr} {cap n : Nat} {K : List Tk} {p : Pk} (hb : Below w.heap.size w W0) (hs : Rchg (fun k => k = T) W0 W1) (hg : W1.drew.grownBy W2 (Value.slice A n cap).ownBlock) (ho : tkOwn W2 0 (.slice A K.length cap) K)
    (hT : W2.heap[T]? = some (.cells (tkB at_ A n cap) 61 (0, 0))) (h3 : W2.heap[w.heap.size]? = some (.cells #[.pointer (some ⟨T, 0, none⟩)] 28 (0, 0))) (h4 : W2.heap[w.heap.size + 1]? = some (.cells (pkA p) 37 (0, 0)))
    (h5 : W2.heap[w.heap.size + 1 + 1]? = some (.cells #[.int .i64 at_] 3 (0, 0))) (hne : (Value.slice A n cap).ownBlock ≠ some T) (hTl : T < w.heap.size) (hW : W2.setCell ⟨T, 7, none⟩ (.slice A K.length cap) = W9) : SeeMid w W9 T at_ A cap K p := by
  subst hW
  refine ⟨heap_set hT 7 _, rw_same ho (fun k hk => Below.heap_setCell _ _ _ _ (fun e => hne (by rw [own_cut (m := K.length), hk]; exact congrArg some e))), (by rw [own_cut (m := n)]; exact hne),
    (Below.heap_setCell _ _ _ _ (by show w.heap.size ≠ T; omega)).trans h3, (Below.heap_setCell _ _ _ _ (by show w.heap.size + 1 ≠ T; omega)).trans h4, (Below.heap_setCell _ _ _ _ (by show w.heap.size + 1 + 1 ≠ T; omega)).trans h5, ?_⟩
  have hg' : W1.grownBy W2 (Value.slice A n cap).ownBlock := ⟨hg.os, hg.tape, hg.output, hg.size, hg.block⟩
  refine Rchg.set (F := tkF T A) ?_ (fun _ => .inl rfl) 7 _
  exact ((Rchg.of_below (F := tkF T A) hb).trans hs (fun _ _ e => .inl e)).trans (Rchg.of_grown (F := tkF T A) hg' (fun k e _ => .inr (by rw [← own_cut0 (n := n) (cap := cap)]; exact e))) (fun _ _ e => e)
/-- What is seen, and the list behind it. -/
def seeL (f : Fl) (fin : Bool) (at_ : Int) (L : List Tk) : Bool × List Tk := match L.filter (fun e => !endedT at_ e) with
  | [] => (false, [])
  | x :: _ => if sameT f x then (true, [seenT f at_ fin x]) else (false, [x])
theorem see_no {w wc W4 W5 : World} {T : Nat} {at_ : Int} {A : Option Addr} {cap : Nat} {K : List Tk} {p : Pk} (hM : SeeMid w wc T at_ A cap K p) (h4 : Below wc.heap.size wc W4) (h5 : Below W4.heap.size W4 W5) (hf : ∀ x ∈ K, 0 ≤ x.last ∧ x.last ≤ 100000) (hl : K.length ≤ 1) :
    TkrAt W5 T at_ A cap K ∧ Rchg (tkF T A) w W5 := by
  have hb : Below wc.heap.size wc W5 := h4.trans (h5.mono h4.size)
  exact ⟨⟨(hb.block T (lt_of_block hM.blk)).trans hM.blk, rw_same hM.own (fun k hk => hb.block k (hM.own.lt k hk).2), hM.ne, hf, hl⟩, hM.chg.trans (Rchg.of_below (F := tkF T A) hb) (fun _ _ e => e)⟩
theorem tk_set {w : World} {g cap : Nat} {x x' : Tk} (h : tkOwn w 0 (.slice (some ⟨g, 0, none⟩) 1 cap) [x]) (o : Nat) (v : Value) (he : (tkC x).set o v = tkC x') : tkOwn (w.setCell ⟨g, o, none⟩ v) 0 (.slice (some ⟨g, 0, none⟩) 1 cap) [x'] := by
  have hs := (World.ownsRow.stored h o v).1
  have e1 : rwC tkC [x] = tkC x := by simp [rwC]
  have e2 : rwC tkC [x'] = tkC x' := by simp [rwC]
  rw [e1, he, ← e2] at hs
  exact hs
theorem tk_one {w : World} {g cap : Nat} {x : Tk} (h : tkOwn w 0 (.slice (some ⟨g, 0, none⟩) 1 cap) [x]) : RwCells w g 0 (tkC x) ∧ g < w.heap.size := by
  obtain ⟨g', off, e, hl, hc⟩ := (rw_at' (d := noTk) tkC_len h) 0 (by simp)
  injection e with e
  injection e with e1 e2
  subst e1
  subst e2
  exact ⟨by simpa using hc, hl⟩
theorem own_tne3 {w : World} {base : Nat} {e : TypeId} {size n m g cap : Nat} {xs : List Value} (h : w.ownsRow base e size (.slice (some ⟨g, 0, none⟩) m cap) n xs) {B : Nat} {cs : Array Value} {T : TypeId} {fr : Nat × Nat} (hB : w.heap[B]? = some (.cells cs T fr)) (ht : T ≠ e) : B ≠ g :=
  fun c => own_tne h hB ht (by rw [c]; rfl)
theorem tk_dr {w W : World} {g o cap : Nat} {u : Value} {x : Tk} (hW : w.setCell ⟨g, o, none⟩ u = W) (h : tkOwn (w.setCell ⟨g, o, none⟩ u) 0 (.slice (some ⟨g, 0, none⟩) 1 cap) [x]) : tkOwn W.drew 0 (.slice (some ⟨g, 0, none⟩) 1 cap) [x] := by
  subst hW; exact h
theorem rc_dr {F : Nat → Prop} {w0 w W : World} {g o : Nat} {u : Value} (hW : w.setCell ⟨g, o, none⟩ u = W) (h : Rchg F w0 (w.setCell ⟨g, o, none⟩ u)) : Rchg F w0 W.drew := by
  subst hW; exact ⟨h.os, h.tape, h.output, h.size, h.block⟩
theorem see_yes {w W5 W8 : World} {T g cap : Nat} {at_ : Int} {x : Tk} (hT : W5.heap[T]? = some (.cells (tkB at_ (some ⟨g, 0, none⟩) 1 cap) 61 (0, 0))) (hc : Rchg (tkF T (some ⟨g, 0, none⟩)) w W5) (ho : tkOwn W8 0 (.slice (some ⟨g, 0, none⟩) 1 cap) [x]) (hs : Rchg (fun k => k = g) W5 W8) (hg : T ≠ g) (h0 : 0 ≤ x.last) (h1 : x.last ≤ 100000) :
    TkrAt W8 T at_ (some ⟨g, 0, none⟩) cap [x] ∧ Rchg (tkF T (some ⟨g, 0, none⟩)) w W8 :=
  ⟨⟨(hs.block T (lt_of_block hT) hg).trans hT, ho, (fun e => hg (by injection e with e; exact e.symm)), fun y hy => by rw [List.mem_singleton.1 hy]; exact ⟨h0, h1⟩, by simp⟩, hc.trans hs (fun k _ e => .inr (by rw [e]; rfl))⟩
def SeeOut (w : World) (T : Nat) (at_ : Int) (A : Option Addr) (cap : Nat) (L : List Tk) (p : Pk) (e : Ending) (w' : World) : Prop :=
  ∃ (y : Bool) (K' : List Tk), e = .returned (.bool y) ∧ (y, K') = seeL p.f (p.fin || p.rst) at_ L ∧ TkrAt w' T at_ A cap K' ∧ Rchg (tkF T A) w w'
theorem entersSee1 : ∀ args w, (callFunc 57 args).run Tryz.prog w = .ok (.enter 57 args) w := enters_of Tryz.func57 (by kernel_rfl) rfl
theorem entersSee2 : ∀ args w, (callFunc 60 args).run Tryz.prog w = .ok (.enter 60 args) w := enters_of Tryz.func60 (by kernel_rfl) rfl
set_option maxRecDepth 100000 in
set_option maxHeartbeats 4000000 in
theorem see_any (T : Nat) (last : Int) (A : Option Addr) (cap : Nat) (L : List Tk) (p : Pk) (at_ : Int) (w : World) (h : TkrAt w T last A cap L) (h0 : 0 ≤ at_) (h1 : at_ ≤ 100000) :
    Calls Tryz.prog 26 #[.pointer (some ⟨T, 0, none⟩), .agg #[.bool p.f.s6, .int .u64 p.f.sh, .int .u64 p.f.sl, .bool p.f.t6, .int .u64 p.f.th, .int .u64 p.f.tl, .int .i64 p.hops, .int .i64 p.f.proto, .int .i64 p.f.fp, .int .i64 p.f.tp, .bool p.syn, .bool p.fin, .bool p.rst, .bool p.has, .int .i64 p.seq, .int .i64 p.ack, .bool p.reply, .int .i64 p.id, .slice p.pA p.pn p.pc], .int .i64 at_] w (SeeOut w T at_ A cap L p) := by
  have hTl := lt_of_block h.blk
  have b3 : (((w.alloc (.cells #[.pointer (some ⟨T, 0, none⟩)] 28)).alloc (.cells (pkA p) 37)).alloc (.cells #[.int .i64 at_] 3)).heap[w.heap.size]? = _ := al31 w _ _ _
  have b4 : (((w.alloc (.cells #[.pointer (some ⟨T, 0, none⟩)] 28)).alloc (.cells (pkA p) 37)).alloc (.cells #[.int .i64 at_] 3)).heap[w.heap.size + 1]? = _ := al32 w _ _ _
  have b5 : (((w.alloc (.cells #[.pointer (some ⟨T, 0, none⟩)] 28)).alloc (.cells (pkA p) 37)).alloc (.cells #[.int .i64 at_] 3)).heap[w.heap.size + 1 + 1]? = _ := al33 w _ _ _
  have HB : Below w.heap.size w (((w.alloc (.cells #[.pointer (some ⟨T, 0, none⟩)] 28)).alloc (.cells (pkA p) 37)).alloc (.cells #[.int .i64 at_] 3)) := bl_al (bl_al (bl_alloc w _))
  go_enter Tryz.func26, Tryz.ntmps26
  go_upto_region 1 with (fail)
  generalize hW : World.alloc _ _ = W0
  have h3 : W0.heap[w.heap.size]? = some (.cells #[.pointer (some ⟨T, 0, none⟩)] 28 (0, 0)) := by rw [← hW]; exact b3
  have h4 : W0.heap[w.heap.size + 1]? = some (.cells (pkA p) 37 (0, 0)) := by rw [← hW]; exact b4
  have h5 : W0.heap[w.heap.size + 1 + 1]? = some (.cells #[.int .i64 at_] 3 (0, 0)) := by rw [← hW]; exact b5
  have hB0 : Below w.heap.size w W0 := by rw [← hW]; exact HB
  clear b3 b4 b5 HB hW
  have hT0 := (hB0.block T hTl).trans h.blk
  have ho0 : tkOwn W0 0 (.slice A L.length cap) L := rw_same h.own (fun k hk => hB0.block k (h.own.lt k hk).2)
  have HO0 := Lib.hid ho0
  have HB0 := Lib.hid hB0
  have c3 : W0.cell? ⟨w.heap.size, 0, none⟩ = some (.pointer (some ⟨T, 0, none⟩)) := cell_of h3 0
  have c5 : W0.cell? ⟨w.heap.size + 1 + 1, 0, none⟩ = some (.int .i64 at_) := cell_of h5 0
  obtain ⟨⟨t0, t1, t2, t3, t4, t5, t6, t7⟩, f6, f7, lT⟩ := tkB_cells hT0
  have hT1 : (W0.setCell ⟨T, 6, none⟩ (.int .i64 at_)).heap[T]? = some (.cells (tkB at_ A L.length cap) 61 (0, 0)) := heap_set hT0 6 _
  have H3 := Lib.hid h3
  have H4 := Lib.hid h4
  have H5 := Lib.hid h5
  have HT1 := Lib.hid hT1
  clear h3 h4 h5 hT0 ho0 hB0 hT1
  go_upto_region 2 with (fail)
  generalize hW : World.setCell _ _ _ = W1
  have hs1 : Rchg (fun k => k = T) W0 W1 := by rw [← hW]; exact Rchg.set (F := fun k => k = T) (Rchg.refl _ _) (fun _ => rfl) 6 _
  have hT1 : W1.heap[T]? = some (.cells (tkB at_ A L.length cap) 61 (0, 0)) := by rw [← hW]; exact HT1.out
  clear hW HT1 c3 c5 t0 t1 t2 t3 t4 t5 t6 t7 f6 f7
  have h3 := (hs1.block _ (lt_of_block H3.out) (by omega)).trans H3.out
  have h4 := (hs1.block _ (lt_of_block H4.out) (by omega)).trans H4.out
  have h5 := (hs1.block _ (lt_of_block H5.out) (by omega)).trans H5.out
  have ho1 : tkOwn W1 0 (.slice A L.length cap) L := rw_same HO0.out (fun k hk => hs1.block k (HO0.out.lt k hk).2 (fun e => h.ne (by rw [hk, e])))
  have hpred : ∀ wr, W1.drew.grownBy wr (Value.slice A L.length cap).ownBlock → tkPred 57 #[.pointer (some ⟨w.heap.size, 0, none⟩), .pointer (some ⟨w.heap.size + 1 + 1, 0, none⟩)] (endedT at_) L wr := by
    intro wr hg W e he hb
    have k3 := (hb.block _ (lt_of_block (gr_blk hg h3 (fun c => by have := (h.own.lt _ c).2; omega)))).trans (gr_blk hg h3 (fun c => by have := (h.own.lt _ c).2; omega))
    have k5 := (hb.block _ (lt_of_block (gr_blk hg h5 (fun c => by have := (h.own.lt _ c).2; omega)))).trans (gr_blk hg h5 (fun c => by have := (h.own.lt _ c).2; omega))
    have kT := (hb.block _ (lt_of_block (gr_blk hg hT1 h.ne))).trans (gr_blk hg hT1 h.ne)
    exact see1_any T _ _ at_ A _ cap e at_ W _ _ _ kT k3 k5 (h.fine e he).1 (h.fine e he).2 h0 h1
  have hdel := tk_del A cap L 57 #[.pointer (some ⟨w.heap.size, 0, none⟩), .pointer (some ⟨w.heap.size + 1 + 1, 0, none⟩)] (endedT at_) W1.drew entersSee1 ho1 (by have := h.len; omega) hpred
  have HDEL := Lib.hid hdel
  have H3 := Lib.hid h3
  have H4 := Lib.hid h4
  have H5 := Lib.hid h5
  have HT1 := Lib.hid hT1
  have HS1 := Lib.hid hs1
  have HN3 := Lib.hid (show (Value.slice A L.length cap).ownBlock ≠ some w.heap.size from fun c => by have := (h.own.lt _ c).2; omega)
  have HN4 := Lib.hid (show (Value.slice A L.length cap).ownBlock ≠ some (w.heap.size + 1) from fun c => by have := (h.own.lt _ c).2; omega)
  have HN5 := Lib.hid (show (Value.slice A L.length cap).ownBlock ≠ some (w.heap.size + 1 + 1) from fun c => by have := (h.own.lt _ c).2; omega)
  have HNT := Lib.hid h.ne
  have HF := Lib.hid h.fine
  have hlen := h.len
  have z3 : W1.cell? ⟨w.heap.size, 0, none⟩ = some (.pointer (some ⟨T, 0, none⟩)) := cell_of h3 0
  have zT := tkB_cells hT1
  clear hpred hdel h3 h4 h5 hT1 hs1 ho1 HO0
  clear h
  go_cut [] (fun wc => SeeMid w wc T at_ A cap (L.filter (fun e => !endedT at_ e)) p)
  case first =>
    go_region_law (first
      | (go_simp; go_at_call 56; refine HDEL.out.mono ?_; rintro e W2 ⟨rfl, hg2, ho2⟩; have hT2 := gr_blk hg2 HT1.out HNT.out; have h32 := gr_blk hg2 H3.out HN3.out; have h42 := gr_blk hg2 H4.out HN4.out; have h52 := gr_blk hg2 H5.out HN5.out; have y3 := cell_of h32 0; have yT := tkB_cells hT2))
    all_goals (
      generalize hW : World.setCell _ _ _ = W9
      have hm : SeeMid w W9 T at_ A cap (L.filter (fun e => !endedT at_ e)) p := see_mid HB0.out HS1.out hg2 ho2 hT2 h32 h42 h52 HNT.out hTl hW
      clear hW hg2 ho2 hT2 h32 h42 h52 y3 yT z3 zT
      go_wp2_with fail
      go_meet
      exact hm)
  case rest =>
    generalize hK : L.filter (fun e => !endedT at_ e) = K at hcut
    have HK := Lib.hid hK
    have hKl : K.length ≤ 1 := by rw [← hK]; exact Nat.le_trans (List.length_filter_le _ _) hlen
    have hKf : ∀ x ∈ K, 0 ≤ x.last ∧ x.last ≤ 100000 := fun x hx => HF.out x (by rw [← hK] at hx; exact (List.mem_filter.1 hx).1)
    have HKF := Lib.hid hKf
    have HM := Lib.hid hcut
    clear hK hKf z3 zT
    go_upto_region 3 with (fail)
    go_step
    go_step
    refine load_step rfl hcut.h4 (by kernel_rfl) (by kernel_rfl) ?_
    clear hcut
    go_wp2_with fail
    refine (flowOf_any p _).mono ?_
    rintro e W3 ⟨rfl, hb3⟩
    have hT4 := old1 (a := .cells (flA p.f) 63) ((hb3.block _ (lt_of_block HM.out.blk)).trans HM.out.blk)
    have h34 := old1 (a := .cells (flA p.f) 63) ((hb3.block _ (lt_of_block HM.out.h3)).trans HM.out.h3)
    have hF4 := al1 W3 (.cells (flA p.f) 63)
    have HB4 := Lib.hid (show Below wc.heap.size wc (W3.alloc (.cells (flA p.f) 63)) from bl_al hb3)
    have hW3 := hb3.size
    clear hb3
    go_upto_region 4 with (fail)
    generalize hW : World.alloc W3 _ = W4
    have hT4' : W4.heap[T]? = some (.cells (tkB at_ A K.length cap) 61 (0, 0)) := by rw [← hW]; exact hT4
    have h34' : W4.heap[w.heap.size]? = some (.cells #[.pointer (some ⟨T, 0, none⟩)] 28 (0, 0)) := by rw [← hW]; exact h34
    have hF4' : W4.heap[W3.heap.size]? = some (.cells (flA p.f) 63 (0, 0)) := by rw [← hW]; exact hF4
    have hb4 : Below wc.heap.size wc W4 := by rw [← hW]; exact HB4.out
    clear hW hT4 h34 hF4 HB4
    have ho4 : tkOwn W4 0 (.slice A K.length cap) K := rw_same HM.out.own (fun k hk => hb4.block k (HM.out.own.lt k hk).2)
    have hidx := tk_idx A cap K 60 #[.pointer (some ⟨W3.heap.size, 0, none⟩)] (sameT p.f) W4 entersSee2 (rw_at' tkC_len ho4) (by omega)
      (fun W e he hb => see2_any W3.heap.size p.f e W _ ((hb.block _ (lt_of_block hF4')).trans hF4'))
    have HIDX := Lib.hid hidx
    have z3 : W4.cell? ⟨w.heap.size, 0, none⟩ = some (.pointer (some ⟨T, 0, none⟩)) := cell_of h34' 0
    have zT := tkB_cells hT4'
    have HT4 := Lib.hid hT4'
    have H34 := Lib.hid h34'
    have HF4 := Lib.hid hF4'
    have HB4 := Lib.hid hb4
    have HO4 := Lib.hid ho4
    clear hT4' h34' hF4' hb4 ho4 hidx
    go_wp2_with fail
    refine HIDX.out.mono ?_
    rintro e W5 ⟨rfl, hb5⟩
    rcases K with _ | ⟨x, _ | ⟨x2, K2⟩⟩
    · have hr : rwIdx (sameT p.f) [] = -1 := rfl
      have HR := Lib.hid (see_no HM.out HB4.out hb5 HKF.out (by simp))
      clear hb5
      go_wp2_with fail
      go_ret
      exact ⟨false, [], rfl, by unfold seeL; rw [HK.out], HR.out⟩
    · by_cases hsm : sameT p.f x = true
      · have hr : rwIdx (sameT p.f) [x] = 0 := by simp [rwIdx, hsm]
        have hb : Below wc.heap.size wc W5 := HB4.out.trans (hb5.mono HB4.out.size)
        have ho5 : tkOwn W5 0 (.slice A 1 cap) [x] := rw_same HM.out.own (fun k hk => hb.block k (HM.out.own.lt k hk).2)
        obtain ⟨g, rfl⟩ : ∃ g, A = some ⟨g, 0, none⟩ := by
          rcases ho5.2 with ⟨h1, h2⟩ | ⟨g, cap', cur, h1, _⟩
          · first | (simp at h1; done) | (simp at h2; done) | (injection h1 with _ h3; omega)
          · injection h1 with h1; exact ⟨g, h1⟩
        have hT5 := (hb.block _ (lt_of_block HM.out.blk)).trans HM.out.blk
        have h35 := (hb.block _ (lt_of_block HM.out.h3)).trans HM.out.h3
        have h45 := (hb.block _ (lt_of_block HM.out.h4)).trans HM.out.h4
        have h55 := (hb.block _ (lt_of_block HM.out.h5)).trans HM.out.h5
        have hF5 := (hb5.block _ (lt_of_block HF4.out)).trans HF4.out
        have hch5 := HM.out.chg.trans (Rchg.of_below (F := tkF T (some ⟨g, 0, none⟩)) hb) (fun _ _ e => e)
        have hgc := (HM.out.own.lt g rfl).2
        have hgF : W3.heap.size ≠ g := by omega
        have hgT : T ≠ g := fun e => HM.out.ne (by rw [e]; rfl)
        have hg3 : w.heap.size ≠ g := own_tne3 ho5 h35 (by decide)
        have hg4 : w.heap.size + 1 ≠ g := own_tne3 ho5 h45 (by decide)
        have hg5 : w.heap.size + 1 + 1 ≠ g := own_tne3 ho5 h55 (by decide)
        have HO5 := Lib.hid ho5
        have H45 := Lib.hid h45
        have HF5 := Lib.hid hF5
        have HT5 := Lib.hid hT5
        have HCH := Lib.hid hch5
        have HX := Lib.hid (HKF.out x (by simp))
        have HSM := Lib.hid hsm
        have z3 : W5.cell? ⟨w.heap.size, 0, none⟩ = some (.pointer (some ⟨T, 0, none⟩)) := cell_of h35 0
        have z5 : W5.cell? ⟨w.heap.size + 1 + 1, 0, none⟩ = some (.int .i64 at_) := cell_of h55 0
        have zT := tkB_cells hT5
        have zx := tk_cells (tk_one ho5).1
        have fr9 := rw_froz ho5 9
        clear hsm hb ho5 hT5 h35 h45 h55 hF5 hch5 hb5
        go_wp2_with fail
        generalize hW : World.setCell _ _ _ = W6
        have ho6 : tkOwn W6 0 (.slice (some ⟨g, 0, none⟩) 1 cap) [{ x with last := at_ }] := by rw [← hW]; exact tk_set HO5.out 9 _ rfl
        have hs6 : Rchg (fun k => k = g) W5 W6 := by rw [← hW]; exact Rchg.set (F := fun k => k = g) (Rchg.refl _ _) (fun _ => rfl) 9 _
        clear hW zx fr9 z3 z5 zT
        have hF6 := (hs6.block _ (lt_of_block HF5.out) hgF).trans HF5.out
        have zF6 : (W6.cell? ⟨W3.heap.size, 0, none⟩ = some (.int .i64 p.f.proto) ∧ W6.cell? ⟨W3.heap.size, 1, none⟩ = some (.bool p.f.s6) ∧ W6.cell? ⟨W3.heap.size, 2, none⟩ = some (.int .u64 p.f.sh) ∧ W6.cell? ⟨W3.heap.size, 3, none⟩ = some (.int .u64 p.f.sl) ∧ W6.cell? ⟨W3.heap.size, 4, none⟩ = some (.bool p.f.t6) ∧ W6.cell? ⟨W3.heap.size, 5, none⟩ = some (.int .u64 p.f.th) ∧ W6.cell? ⟨W3.heap.size, 6, none⟩ = some (.int .u64 p.f.tl) ∧ W6.cell? ⟨W3.heap.size, 7, none⟩ = some (.int .i64 p.f.fp) ∧ W6.cell? ⟨W3.heap.size, 8, none⟩ = some (.int .i64 p.f.tp)) :=
          ⟨cell_of hF6 0, cell_of hF6 1, cell_of hF6 2, cell_of hF6 3, cell_of hF6 4, cell_of hF6 5, cell_of hF6 6, cell_of hF6 7, cell_of hF6 8⟩
        have HO6 := Lib.hid ho6
        have HS6 := Lib.hid hs6
        have zx := tk_cells (tk_one ho6).1
        have fr10 := rw_froz ho6 10
        clear ho6 hs6 hF6
        have gd := guard_fl
        obtain ⟨xf, xl, xa, xd⟩ := x
        dsimp only at zx
        go_cut [] (fun wc => ∃ W7, wc = W7 ∧ tkOwn W7 0 (.slice (some ⟨g, 0, none⟩) 1 cap) [⟨xf, at_, xa || !decide (xf = p.f), xd⟩] ∧ Rchg (fun k => k = g) W5 W7)
        case first =>
          cases xa
          · have hq := fun W => run_eq_fl 9996 xf p.f W
            first | (go_region_law (go_simp)) | done
            all_goals (
              generalize hW : World.setCell _ _ _ = W7
              have h7 := tk_set (x' := ⟨xf, at_, false || !decide (xf = p.f), xd⟩) HO6.out 10 (.bool (!decide (xf = p.f))) rfl
              have hs7 := Rchg.set (F := fun k => k = g) HS6.out (fun _ => rfl) 10 (.bool (!decide (xf = p.f)))
              go_wp2_with fail
              go_meet
              exact ⟨_, rfl, tk_dr hW h7, rc_dr hW hs7⟩)
          · first | (go_region_law (go_simp)) | done
            all_goals (
              generalize hW : World.setCell _ _ _ = W7
              have h7 := tk_set (x' := ⟨xf, at_, true || !decide (xf = p.f), xd⟩) HO6.out 10 (.bool true) rfl
              have hs7 := Rchg.set (F := fun k => k = g) HS6.out (fun _ => rfl) 10 (.bool true)
              go_wp2_with fail
              go_meet
              exact ⟨_, rfl, tk_dr hW h7, rc_dr hW hs7⟩)
        case rest =>
          obtain ⟨W7, rfl, ho7, hs7⟩ := hcut
          have c11 : wc.cell? ⟨w.heap.size + 1, 11, none⟩ = some (.bool p.fin) := cell_of ((hs7.block _ (lt_of_block H45.out) hg4).trans H45.out) 11
          have c12 : wc.cell? ⟨w.heap.size + 1, 12, none⟩ = some (.bool p.rst) := cell_of ((hs7.block _ (lt_of_block H45.out) hg4).trans H45.out) 12
          have HO7 := Lib.hid ho7
          have HS7 := Lib.hid hs7
          have zx := (tk_cells (tk_one ho7).1).2.2.2.2.2.2.2.2.2.2.2
          have fr11 := rw_froz ho7 11
          have HFIN : ∀ v : Bool, v = (xd || (p.fin || p.rst)) → TkrAt (wc.setCell ⟨g, 11, none⟩ (.bool v)) T at_ (some ⟨g, 0, none⟩) cap [seenT p.f at_ (p.fin || p.rst) ⟨xf, xl, xa, xd⟩] ∧ Rchg (tkF T (some ⟨g, 0, none⟩)) w (wc.setCell ⟨g, 11, none⟩ (.bool v)) := by
            intro v hv
            subst hv
            exact see_yes HT5.out HCH.out (tk_set HO7.out 11 _ rfl) (Rchg.set (F := fun k => k = g) HS7.out (fun _ => rfl) 11 _) hgT h0 h1
          have HFI := Lib.hid HFIN
          have HSE := Lib.hid (show (true, [seenT p.f at_ (p.fin || p.rst) ⟨xf, xl, xa, xd⟩]) = seeL p.f (p.fin || p.rst) at_ L from by unfold seeL; rw [HK.out]; simp [HSM.out])
          clear ho7 hs7 HFIN HSM HX
          cases xd
          · cases hfi : p.fin
            · cases hrs : p.rst
              · go_wp2_with fail
                go_ret
                exact ⟨true, _, rfl, HSE.out, HFI.out false (by rw [hfi, hrs]; rfl)⟩
              · go_wp2_with fail
                go_ret
                exact ⟨true, _, rfl, HSE.out, HFI.out true (by rw [hfi, hrs]; rfl)⟩
            · go_wp2_with fail
              go_ret
              exact ⟨true, _, rfl, HSE.out, HFI.out true (by rw [hfi]; rfl)⟩
          · go_wp2_with fail
            go_ret
            exact ⟨true, _, rfl, HSE.out, HFI.out true rfl⟩
      · have hsf : sameT p.f x = false := by simpa using hsm
        have hr : rwIdx (sameT p.f) [x] = -1 := by simp [rwIdx, hsf]
        have HR := Lib.hid (see_no HM.out HB4.out hb5 HKF.out (by simp))
        have HSF := Lib.hid hsf
        clear hb5 hsm hsf
        go_wp2_with fail
        go_ret
        exact ⟨false, [x], rfl, by unfold seeL; rw [HK.out]; simp [HSF.out], HR.out⟩
    · simp at hKl
end Go.Proofs.YtgmeblgfcmkcgaaGreatDoor
