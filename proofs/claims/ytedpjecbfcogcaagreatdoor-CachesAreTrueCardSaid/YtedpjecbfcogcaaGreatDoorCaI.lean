/- What the stream draws: records. -/
import Derived.Test.YtedpjecbfcogcaaGreatDoorRaw
import Derived.Test.YtedpjecbfcogcaaGreatDoorCaF
import Derived.Test.YtedpjecbfcogcaaGreatDoorRange
import Derived.Test.YtedpjecbfcogcaaGreatDoorPick
import Derived.Test.YtedpjecbfcogcaaGreatDoorSome
import Derived.Test.YtedpjecbfcogcaaGreatDoorOdd
namespace Go.Proofs.YtedpjecbfcogcaaGreatDoor
open Go.RowKit Go.Hw

def AnyOut (w : World) (e : Ending) (w' : World) : Prop := ∃ six hi lo, e = .returned (.agg #[.bool six, .int .u64 hi, .int .u64 lo]) ∧ 0 ≤ hi ∧ Below w.heap.size w w'
set_option maxRecDepth 100000 in
set_option maxHeartbeats 400000 in
theorem at_any1 (n : Int) (w : World) (_h0 : 0 ≤ n) (_h1 : n ≤ 1000) : Calls Tryz.prog 32 #[.int .i64 n] w (AnyOut w) := by
  go_enter Tryz.func32, Tryz.ntmps32
  go_wp2_with fail
  have hb := (Below.refl w.heap.size w).alloc (Nat.le_refl _) (.cells #[.bool false, .int .u64 0, .int .u64 (1681915904 + n)] 48 (0, 0))
  obtain ⟨y0, y1, y2, -⟩ := res3 (heap_alloc_new w (.cells #[.bool false, .int .u64 0, .int .u64 (1681915904 + n)] 48 (0, 0)))
  refine bodyPost_ret (v := .agg #[.bool false, .int .u64 0, .int .u64 (1681915904 + n)]) (by simp [results, Tryz.results32, go_sem, y0, y1, y2]) rfl ⟨_, _, _, rfl, by omega, hb⟩
set_option maxRecDepth 100000 in
set_option maxHeartbeats 400000 in
theorem sixAt_any (n : Int) (w : World) (_h0 : 0 ≤ n) (_h1 : n ≤ 1000) : Calls Tryz.prog 33 #[.int .i64 n] w (AnyOut w) := by
  go_enter Tryz.func33, Tryz.ntmps33
  go_wp2_with fail
  have hb := (Below.refl w.heap.size w).alloc (Nat.le_refl _) (.cells #[.bool true, .int .u64 18230571291595767808, .int .u64 n] 48 (0, 0))
  obtain ⟨y0, y1, y2, -⟩ := res3 (heap_alloc_new w (.cells #[.bool true, .int .u64 18230571291595767808, .int .u64 n] 48 (0, 0)))
  refine bodyPost_ret (v := .agg #[.bool true, .int .u64 18230571291595767808, .int .u64 n]) (by simp [results, Tryz.results33, go_sem, y0, y1, y2]) rfl ⟨_, _, _, rfl, by omega, hb⟩

theorem heap_alloc_at {W : World} {n : Nat} (o : Obj) (h : W.heap.size = n) : (W.alloc o).heap[n]? = some o := by subst h; exact heap_alloc_new _ _
theorem asc8_of {s : ByteArray} (h : (decide (s.size ≤ 8) && s.data.toList.all (fun b => decide (b.toNat < 128))) = true) : Asc8 s := by
  rw [Bool.and_eq_true] at h
  refine ⟨of_decide_eq_true h.1, fun k hk => ?_⟩
  have h2 := List.all_eq_true.1 h.2 s[k] (by
    show s.data[k] ∈ s.data.toList
    exact Array.mem_def.1 (Array.getElem_mem hk))
  exact of_decide_eq_true h2
theorem asc8_getD {vs : List ByteArray} (h : (vs.all fun s => decide (s.size ≤ 8) && s.data.toList.all (fun b => decide (b.toNat < 128))) = true) (k : Nat) : Asc8 (vs.getD k ByteArray.empty) := by
  by_cases hk : k < vs.length
  · exact asc8_of (List.all_eq_true.1 h _ (rw_mem hk))
  · rw [List.getD_eq_getElem?_getD, List.getElem?_eq_none (by omega)]
    exact asc8_of rfl
theorem size_getD {vs : List ByteArray} (h : (vs.all fun s => decide (s.size ≤ 1000000)) = true) (k : Nat) : (vs.getD k ByteArray.empty).size ≤ 1000000 := by
  by_cases hk : k < vs.length
  · exact of_decide_eq_true (List.all_eq_true.1 h _ (rw_mem hk))
  · rw [List.getD_eq_getElem?_getD, List.getElem?_eq_none (by omega)]
    show (0 : Nat) ≤ 1000000
    omega

/-- A record is being drawn: R holds it, Q is the result's. -/
structure RcI (w : World) (b : Nat) (A : Option Addr) (cap : Nat) (l : List Int) (x : Int) (Q R : Nat) (r : Rec) (W : World) : Prop where
  box : W.heap[R]? = some (recBox r)
  out : W.heap[Q]? = some (recBox noRec)
  str : Str W b A cap l x
  grown : w.grownBy W (some b)
  lQ : w.heap.size ≤ Q
  lR : w.heap.size ≤ R
  QR : Q ≠ R
  lb : b < w.heap.size
  ok : RecOk r
theorem RcI.call {w W W' : World} {b : Nat} {A : Option Addr} {cap : Nat} {l : List Int} {x x' : Int} {Q R : Nat} {r : Rec} (h : RcI w b A cap l x Q R r W) (hs : Str W' b A cap l x') (hg : W.grownBy W' (some b)) : RcI w b A cap l x' Q R r W' :=
  { h with
    box := (hg.block R (lt_of_block h.box) (fun c => by have e : R = b := Option.some.inj c; have := h.lR; have := h.lb; omega)).trans h.box
    out := (hg.block Q (lt_of_block h.out) (fun c => by have e : Q = b := Option.some.inj c; have := h.lQ; have := h.lb; omega)).trans h.out
    str := hs
    grown := h.grown.andThen hg (fun _ h => .inr h) }
theorem RcI.tmp {w W : World} {b : Nat} {A : Option Addr} {cap : Nat} {l : List Int} {x : Int} {Q R : Nat} {r : Rec} (h : RcI w b A cap l x Q R r W) (o : Obj) : RcI w b A cap l x Q R r (W.alloc o) :=
  h.call (h.str.alloc o) (World.grownBy_alloc _ _ _)
theorem RcI.below {w W W' : World} {b : Nat} {A : Option Addr} {cap : Nat} {l : List Int} {x : Int} {Q R : Nat} {r : Rec} (h : RcI w b A cap l x Q R r W) (hb : Below W.heap.size W W') : RcI w b A cap l x Q R r W' :=
  h.call (h.str.grown (grownB hb none) (fun k e => by cases e)) (grownB hb _)
theorem RcI.set1 {w W : World} {b : Nat} {A : Option Addr} {cap : Nat} {l : List Int} {x : Int} {Q R : Nat} {r : Rec} (h : RcI w b A cap l x Q R r W) (i : Nat) (v : Value) (r' : Rec)
    (e : (#[.string r.name, .int .i64 r.kind, .bool r.six, .int .u64 r.hi, .int .u64 r.lo, .string r.to, .string r.words, .int .i64 r.life] : Array Value).setIfInBounds i v = #[.string r'.name, .int .i64 r'.kind, .bool r'.six, .int .u64 r'.hi, .int .u64 r'.lo, .string r'.to, .string r'.words, .int .i64 r'.life]) (hok : RecOk r') : RcI w b A cap l x Q R r' (W.setCell ⟨R, i, none⟩ v) :=
  { h with
    box := by
      have hb := h.box
      unfold recBox at hb ⊢
      rw [← e]
      exact heap_set hb i v
    out := (Below.heap_setCell _ _ _ _ (by show Q ≠ R; exact h.QR)).trans h.out
    str := h.str.keep (Below.heap_setCell _ _ _ _ (by show b ≠ R; have := h.lR; have := h.lb; omega)) fun p hp => World.cell?_of_block (w := W) (Below.heap_setCell _ _ _ _ (by show p.block ≠ R; have := h.lR; have := h.lb; omega))
    grown := ⟨h.grown.os, h.grown.tape, h.grown.output, by have := h.grown.size; simpa using this, fun k hk hne => (Below.heap_setCell _ _ _ _ (by show k ≠ R; have := h.lR; omega)).trans (h.grown.block k hk hne)⟩
    ok := hok }
theorem RcI.cells {w W : World} {b : Nat} {A : Option Addr} {cap : Nat} {l : List Int} {x : Int} {Q R : Nat} {r : Rec} (h : RcI w b A cap l x Q R r W) :
    (W.cell? ⟨R, 0, none⟩ = some (.string r.name) ∧ W.cell? ⟨R, 1, none⟩ = some (.int .i64 r.kind) ∧ W.cell? ⟨R, 2, none⟩ = some (.bool r.six) ∧ W.cell? ⟨R, 3, none⟩ = some (.int .u64 r.hi) ∧ W.cell? ⟨R, 4, none⟩ = some (.int .u64 r.lo) ∧ W.cell? ⟨R, 5, none⟩ = some (.string r.to) ∧ W.cell? ⟨R, 6, none⟩ = some (.string r.words) ∧ W.cell? ⟨R, 7, none⟩ = some (.int .i64 r.life)) ∧
    W.frozen? ⟨R, 0, none⟩ = false ∧ W.frozen? ⟨R, 1, none⟩ = false ∧ W.frozen? ⟨R, 2, none⟩ = false ∧ W.frozen? ⟨R, 3, none⟩ = false ∧ W.frozen? ⟨R, 4, none⟩ = false ∧ W.frozen? ⟨R, 5, none⟩ = false ∧ W.frozen? ⟨R, 6, none⟩ = false ∧ W.frozen? ⟨R, 7, none⟩ = false := by
  have hb := h.box
  unfold recBox at hb
  exact res8 hb
theorem RcI.outs {w W : World} {b : Nat} {A : Option Addr} {cap : Nat} {l : List Int} {x : Int} {Q R : Nat} {r : Rec} (h : RcI w b A cap l x Q R r W) :
    (W.cell? ⟨Q, 0, none⟩ = some (.string ByteArray.empty) ∧ W.cell? ⟨Q, 1, none⟩ = some (.int .i64 0) ∧ W.cell? ⟨Q, 2, none⟩ = some (.bool false) ∧ W.cell? ⟨Q, 3, none⟩ = some (.int .u64 0) ∧ W.cell? ⟨Q, 4, none⟩ = some (.int .u64 0) ∧ W.cell? ⟨Q, 5, none⟩ = some (.string ByteArray.empty) ∧ W.cell? ⟨Q, 6, none⟩ = some (.string ByteArray.empty) ∧ W.cell? ⟨Q, 7, none⟩ = some (.int .i64 0)) ∧
    W.frozen? ⟨Q, 0, none⟩ = false ∧ W.frozen? ⟨Q, 1, none⟩ = false ∧ W.frozen? ⟨Q, 2, none⟩ = false ∧ W.frozen? ⟨Q, 3, none⟩ = false ∧ W.frozen? ⟨Q, 4, none⟩ = false ∧ W.frozen? ⟨Q, 5, none⟩ = false ∧ W.frozen? ⟨Q, 6, none⟩ = false ∧ W.frozen? ⟨Q, 7, none⟩ = false := by
  have hb := h.out
  unfold recBox at hb
  exact res8 hb
def RecDraw (w : World) (b : Nat) (A : Option Addr) (cap : Nat) (l : List Int) (at_ m : Int) (e : Ending) (w' : World) : Prop :=
  ∃ r : Rec, e = .returned (.agg #[.string r.name, .int .i64 r.kind, .bool r.six, .int .u64 r.hi, .int .u64 r.lo, .string r.to, .string r.words, .int .i64 r.life]) ∧ RecOk r ∧ StrTo w w' b A cap l at_ m
/-- The end: the record is handed out. -/
theorem rec_end {w W W2 : World} {b : Nat} {A : Option Addr} {cap : Nat} {l : List Int} {x at_ m : Int} {Q R : Nat} {r : Rec} (h : RcI w b A cap l x Q R r W) (h0 : at_ ≤ x) (h1 : x ≤ at_ + m)
    (hW : (((((((W.setCell ⟨Q, 0, none⟩ (.string r.name)).setCell ⟨Q, 1, none⟩ (.int .i64 r.kind)).setCell ⟨Q, 2, none⟩ (.bool r.six)).setCell ⟨Q, 3, none⟩ (.int .u64 r.hi)).setCell ⟨Q, 4, none⟩ (.int .u64 r.lo)).setCell ⟨Q, 5, none⟩ (.string r.to)).setCell ⟨Q, 6, none⟩ (.string r.words)).setCell ⟨Q, 7, none⟩ (.int .i64 r.life) = W2) :
    W2.heap[Q]? = some (recBox r) ∧ StrTo w W2 b A cap l at_ m := by
  have hb := h.out
  unfold recBox at hb
  have hre := re8 hb hW
  have hQb : b < Q := by have := h.lQ; have := h.lb; omega
  exact ⟨hre.blk, x, h0, h1, hre.str h.str hQb, hre.grown h.grown (.inl h.lQ)⟩

set_option maxRecDepth 100000 in
set_option maxHeartbeats 8000000 in
theorem record_any (b : Nat) (A : Option Addr) (cap : Nat) (l : List Int) (at_ : Int) (nm : ByteArray) (w : World) (h : Str w b A cap l at_) (hh : at_ < 1099511620000) (hn : nm.size ≤ 1000000) :
    Calls Tryz.prog 17 #[.pointer (some ⟨b, 0, none⟩), .string nm] w (RecDraw w b A cap l at_ 30) := by
  have hbl := h.lt
  have hlow := h.low
  go_enter Tryz.func17, Tryz.ntmps17
  go_wp2_with fail
  refine (pick_any b A cap l at_ _ ((h.alloc _).alloc _) (by omega) _ [0, 5, 60, 1000000] (Eq.trans (heap_alloc_at _ (by simp)) rfl) (by omega) (by simp) (by simp) 4 4 rfl).mono ?_
  rintro e W1 ⟨rfl, hs, hg⟩
  generalize hlf : List.getD _ _ _ = lf
  clear hlf
  have hq1 : W1.heap[w.heap.size]? = some (recBox noRec) := (hg.block _ (by simp; omega) (fun c => by have e : w.heap.size = b := Option.some.inj c; omega)).trans ((heap_alloc_old _ _ (by simp)).trans (heap_alloc_new _ _))
  have hg1 : w.grownBy W1 (some b) := grown_alloc_then (grown_alloc_then hg)
  have hl1 : w.heap.size < W1.heap.size := lt_of_block hq1
  have H0 : Hid (RcI w b A cap l (at_ + 1) w.heap.size W1.heap.size ⟨nm, 0, false, 0, 0, ByteArray.empty, ByteArray.empty, lf⟩ (W1.alloc (recBox ⟨nm, 0, false, 0, 0, ByteArray.empty, ByteArray.empty, lf⟩))) := Lib.hid
    { box := heap_alloc_new _ _
      out := (heap_alloc_old _ _ hl1).trans hq1
      str := hs.alloc _
      grown := hg1.andThen (World.grownBy_alloc _ _ _) (fun _ h => .inr h)
      lQ := Nat.le_refl _
      lR := by omega
      QR := by omega
      lb := hbl
      ok := ⟨hn, by show (0 : Nat) ≤ _; omega, asc8_of rfl, by show (0 : Int) ≤ 0; omega⟩ }
  unfold recBox at H0
  clear hq1 hg1 hs hg h
  go_wp2_with fail
  have p0 := draw_low l (at_ + 1) 7 (by omega)
  have p1 := draw_high l (at_ + 1) 7 (by omega)
  refine (next_any b A cap l (at_ + 1) 7 _ H0.out.str (by omega) (by omega) (by omega)).mono ?_
  rintro e W2 ⟨rfl, hs, hg⟩
  have H2 := Lib.hid (H0.out.call hs hg)
  clear hs hg H0
  generalize W1.heap.size = R0 at *
  generalize drawOf l (at_ + 1) 7 = d at *
  obtain ⟨⟨x0, x1, x2, x3, x4, x5, x6, x7⟩, f0, f1, f2, f3, f4, f5, f6, f7⟩ := H2.out.cells
  dsimp only at x0 x1 x2 x3 x4 x5 x6 x7
  by_cases d0 : d = 0
  · subst d0
    go_wp2_with fail
    have r0 := draw_low l (at_ + 1 + 1) (3 - 1 + 1) (by omega)
    have r1 := draw_high l (at_ + 1 + 1) (3 - 1 + 1) (by omega)
    refine (range_any b A cap l (at_ + 1 + 1) 1 3 _ H2.out.str (by omega) (by omega) (by omega) (by omega) (by omega)).mono ?_
    rintro e W3 ⟨rfl, hs, hg⟩
    have H3 := Lib.hid (H2.out.call hs hg)
    generalize drawOf l (at_ + 1 + 1) (3 - 1 + 1) = rr at *
    clear hs hg x0 x1 x2 x3 x4 x5 x6 x7 f0 f1 f2 f3 f4 f5 f6 f7
    go_wp2_with fail
    refine (at_any1 (1 + rr) W3 (by omega) (by omega)).mono ?_
    rintro e W4 ⟨six, hi, lo, rfl, hhi, hb⟩
    have H4 := Lib.hid (H3.out.below hb)
    clear hb
    obtain ⟨⟨x0, x1, x2, x3, x4, x5, x6, x7⟩, f0, f1, f2, f3, f4, f5, f6, f7⟩ := H4.out.cells
    dsimp only at x0 x1 x2 x3 x4 x5 x6 x7
    go_wp2_with fail
    generalize hW : World.setCell _ _ _ = WZ
    have HZ : Hid (RcI w b A cap l _ w.heap.size R0 _ WZ) := Lib.hid (by rw [← hW]; exact ((((H4.out.set1 1 (.int .i64 1) (Rec.mk nm 1 false 0 0 ByteArray.empty ByteArray.empty lf) rfl (RecOk.mk H4.out.ok.name H4.out.ok.to H4.out.ok.words H4.out.ok.hi)).set1 2 (.bool six) (Rec.mk nm 1 six 0 0 ByteArray.empty ByteArray.empty lf) rfl (RecOk.mk H4.out.ok.name H4.out.ok.to H4.out.ok.words H4.out.ok.hi)).set1 3 (.int .u64 hi) (Rec.mk nm 1 six hi 0 ByteArray.empty ByteArray.empty lf) rfl (RecOk.mk H4.out.ok.name H4.out.ok.to H4.out.ok.words hhi)).set1 4 (.int .u64 lo) (Rec.mk nm 1 six hi lo ByteArray.empty ByteArray.empty lf) rfl (RecOk.mk H4.out.ok.name H4.out.ok.to H4.out.ok.words hhi)))
    clear hW
    clear x0 x1 x2 x3 x4 x5 x6 x7 f0 f1 f2 f3 f4 f5 f6 f7
    generalize hrr : Rec.mk _ _ _ _ _ _ _ _ = r at HZ
    clear hrr
    obtain ⟨⟨x0, x1, x2, x3, x4, x5, x6, x7⟩, f0, f1, f2, f3, f4, f5, f6, f7⟩ := HZ.out.cells
    go_wp2_with fail
    refine (flip_any b A cap l (at_ + 1 + 1 + 1) 40 _ HZ.out.str (by omega) (by omega) (by omega)).mono ?_
    rintro e W50 ⟨rfl, hs, hg⟩
    have H50 := Lib.hid (HZ.out.call hs hg)
    clear hs hg x0 x1 x2 x3 x4 x5 x6 x7 f0 f1 f2 f3 f4 f5 f6 f7
    obtain ⟨⟨x0, x1, x2, x3, x4, x5, x6, x7⟩, f0, f1, f2, f3, f4, f5, f6, f7⟩ := H50.out.cells
    generalize hfl : (drawOf l (at_ + 1 + 1 + 1) 40 == 0) = fl
    clear hfl
    cases fl
    · obtain ⟨⟨z0, z1, z2, z3, z4, z5, z6, z7⟩, g0, g1, g2, g3, g4, g5, g6, g7⟩ := H50.out.outs
      go_wp2_with fail
      generalize hW : World.setCell _ _ _ = W99
      obtain ⟨hr, hst⟩ := rec_end (at_ := at_) (m := 30) H50.out (by omega) (by omega) hW
      unfold recBox at hr
      obtain ⟨⟨y0, y1, y2, y3, y4, y5, y6, y7⟩, -⟩ := res8 hr
      refine bodyPost_ret (v := .agg #[.string r.name, .int .i64 r.kind, .bool r.six, .int .u64 r.hi, .int .u64 r.lo, .string r.to, .string r.words, .int .i64 r.life]) (by simp [results, Tryz.results17, go_sem, y0, y1, y2, y3, y4, y5, y6, y7]) rfl ⟨r, rfl, H50.out.ok, hst⟩
    · go_wp2_with fail
      have p0 := draw_low l (at_ + 1 + 1 + 1 + 1) 4 (by omega)
      have p1 := draw_high l (at_ + 1 + 1 + 1 + 1) 4 (by omega)
      refine (next_any b A cap l (at_ + 1 + 1 + 1 + 1) 4 _ H50.out.str (by omega) (by omega) (by omega)).mono ?_
      rintro e W51 ⟨rfl, hs, hg⟩
      have H51 := Lib.hid (H50.out.call hs hg)
      clear hs hg x0 x1 x2 x3 x4 x5 x6 x7 f0 f1 f2 f3 f4 f5 f6 f7
      obtain ⟨⟨x0, x1, x2, x3, x4, x5, x6, x7⟩, f0, f1, f2, f3, f4, f5, f6, f7⟩ := H51.out.cells
      generalize drawOf l (at_ + 1 + 1 + 1 + 1) 4 = q at *
      by_cases q0 : q = 0
      · subst q0
        go_wp2_with fail
        refine (pick_any b A cap l (at_ + 1 + 1 + 1 + 1 + 1) _ (H51.out.tmp _).str (by omega) _ [0, 2, 5] (by rw [heap_alloc_new]; rfl) (by have := H51.out.str.lt; omega) (by simp) (by simp) 3 3 rfl).mono ?_
        rintro e W11 ⟨rfl, hs, hg⟩
        have HW11 := Lib.hid ((H51.out.tmp _).call hs hg)
        clear hs hg
        clear x0 x1 x2 x3 x4 x5 x6 x7 f0 f1 f2 f3 f4 f5 f6 f7
        obtain ⟨⟨x0, x1, x2, x3, x4, x5, x6, x7⟩, f0, f1, f2, f3, f4, f5, f6, f7⟩ := HW11.out.cells
        generalize hvk : List.getD _ _ _ = vk
        clear hvk
        obtain ⟨⟨z0, z1, z2, z3, z4, z5, z6, z7⟩, g0, g1, g2, g3, g4, g5, g6, g7⟩ := HW11.out.outs
        go_wp2_with fail
        generalize hW : World.setCell _ _ _ = W99
        obtain ⟨hr, hst⟩ := rec_end (at_ := at_) (m := 30) (HW11.out.set1 1 (.int .i64 vk) (Rec.mk r.name vk r.six r.hi r.lo r.to r.words r.life) rfl (RecOk.mk HW11.out.ok.name HW11.out.ok.to HW11.out.ok.words HW11.out.ok.hi)) (by omega) (by omega) hW
        unfold recBox at hr
        obtain ⟨⟨y0, y1, y2, y3, y4, y5, y6, y7⟩, -⟩ := res8 hr
        dsimp only at y0 y1 y2 y3 y4 y5 y6 y7
        refine bodyPost_ret (v := .agg #[.string r.name, .int .i64 vk, .bool r.six, .int .u64 r.hi, .int .u64 r.lo, .string r.to, .string r.words, .int .i64 r.life]) (by simp [results, Tryz.results17, go_sem, y0, y1, y2, y3, y4, y5, y6, y7]) rfl ⟨(Rec.mk r.name vk r.six r.hi r.lo r.to r.words r.life), rfl, (RecOk.mk HW11.out.ok.name HW11.out.ok.to HW11.out.ok.words HW11.out.ok.hi), hst⟩
      by_cases q1 : q = 1
      · subst q1
        go_wp2_with fail
        refine (raw_any b A cap l (at_ + 1 + 1 + 1 + 1 + 1) _ H51.out.str (by omega)).mono ?_
        rintro e W12 ⟨six, hi, lo, rfl, hhi, xx, hx0, hx1, hs, hg⟩
        have HW12 := Lib.hid (H51.out.call hs hg)
        clear hs hg x0 x1 x2 x3 x4 x5 x6 x7 f0 f1 f2 f3 f4 f5 f6 f7
        obtain ⟨⟨x0, x1, x2, x3, x4, x5, x6, x7⟩, f0, f1, f2, f3, f4, f5, f6, f7⟩ := HW12.out.cells
        obtain ⟨⟨z0, z1, z2, z3, z4, z5, z6, z7⟩, g0, g1, g2, g3, g4, g5, g6, g7⟩ := HW12.out.outs
        go_wp2_with fail
        generalize hW : World.setCell _ _ _ = W99
        obtain ⟨hr, hst⟩ := rec_end (at_ := at_) (m := 30) (((HW12.out.set1 2 (.bool six) (Rec.mk r.name r.kind six r.hi r.lo r.to r.words r.life) rfl (RecOk.mk HW12.out.ok.name HW12.out.ok.to HW12.out.ok.words HW12.out.ok.hi)).set1 3 (.int .u64 hi) (Rec.mk r.name r.kind six hi r.lo r.to r.words r.life) rfl (RecOk.mk HW12.out.ok.name HW12.out.ok.to HW12.out.ok.words hhi)).set1 4 (.int .u64 lo) (Rec.mk r.name r.kind six hi lo r.to r.words r.life) rfl (RecOk.mk HW12.out.ok.name HW12.out.ok.to HW12.out.ok.words hhi)) (by omega) (by omega) hW
        unfold recBox at hr
        obtain ⟨⟨y0, y1, y2, y3, y4, y5, y6, y7⟩, -⟩ := res8 hr
        dsimp only at y0 y1 y2 y3 y4 y5 y6 y7
        refine bodyPost_ret (v := .agg #[.string r.name, .int .i64 r.kind, .bool six, .int .u64 hi, .int .u64 lo, .string r.to, .string r.words, .int .i64 r.life]) (by simp [results, Tryz.results17, go_sem, y0, y1, y2, y3, y4, y5, y6, y7]) rfl ⟨(Rec.mk r.name r.kind six hi lo r.to r.words r.life), rfl, (RecOk.mk HW12.out.ok.name HW12.out.ok.to HW12.out.ok.words hhi), hst⟩
      by_cases q2 : q = 2
      · subst q2
        go_wp2_with fail
        refine (some_any b A cap l (at_ + 1 + 1 + 1 + 1 + 1) _ (H51.out.tmp _).str (by omega) _ [⟨#[]⟩, ⟨#[65]⟩, ⟨#[120]⟩] (by rw [heap_alloc_new]; rfl) (by have := H51.out.str.lt; omega) (by simp) (by simp) 3 3 rfl).mono ?_
        rintro e W13 ⟨rfl, hs, hg⟩
        have HW13 := Lib.hid ((H51.out.tmp _).call hs hg)
        clear hs hg
        clear x0 x1 x2 x3 x4 x5 x6 x7 f0 f1 f2 f3 f4 f5 f6 f7
        obtain ⟨⟨x0, x1, x2, x3, x4, x5, x6, x7⟩, f0, f1, f2, f3, f4, f5, f6, f7⟩ := HW13.out.cells
        have hsz := size_getD (vs := [⟨#[]⟩, ⟨#[65]⟩, ⟨#[120]⟩]) rfl (drawOf l (at_ + 1 + 1 + 1 + 1 + 1) 3).toNat
        revert hsz
        generalize List.getD ([⟨#[]⟩, ⟨#[65]⟩, ⟨#[120]⟩] : List ByteArray) _ _ = vk
        intro hsz
        obtain ⟨⟨z0, z1, z2, z3, z4, z5, z6, z7⟩, g0, g1, g2, g3, g4, g5, g6, g7⟩ := HW13.out.outs
        go_wp2_with fail
        generalize hW : World.setCell _ _ _ = W99
        obtain ⟨hr, hst⟩ := rec_end (at_ := at_) (m := 30) (HW13.out.set1 5 (.string vk) (Rec.mk r.name r.kind r.six r.hi r.lo vk r.words r.life) rfl (RecOk.mk HW13.out.ok.name hsz HW13.out.ok.words HW13.out.ok.hi)) (by omega) (by omega) hW
        unfold recBox at hr
        obtain ⟨⟨y0, y1, y2, y3, y4, y5, y6, y7⟩, -⟩ := res8 hr
        dsimp only at y0 y1 y2 y3 y4 y5 y6 y7
        refine bodyPost_ret (v := .agg #[.string r.name, .int .i64 r.kind, .bool r.six, .int .u64 r.hi, .int .u64 r.lo, .string vk, .string r.words, .int .i64 r.life]) (by simp [results, Tryz.results17, go_sem, y0, y1, y2, y3, y4, y5, y6, y7]) rfl ⟨(Rec.mk r.name r.kind r.six r.hi r.lo vk r.words r.life), rfl, (RecOk.mk HW13.out.ok.name hsz HW13.out.ok.words HW13.out.ok.hi), hst⟩
      have e0 : (q == 0) = false := by simpa using q0
      have e1 : (q == 1) = false := by simpa using q1
      have e2 : (q == 2) = false := by simpa using q2
      go_wp2_with fail
      refine (some_any b A cap l (at_ + 1 + 1 + 1 + 1 + 1) _ (H51.out.tmp _).str (by omega) _ [⟨#[32, 120]⟩, ⟨#[97, 10, 98]⟩, ⟨#[]⟩, ⟨#[121]⟩] (by rw [heap_alloc_new]; rfl) (by have := H51.out.str.lt; omega) (by simp) (by simp) 4 4 rfl).mono ?_
      rintro e W14 ⟨rfl, hs, hg⟩
      have HW14 := Lib.hid ((H51.out.tmp _).call hs hg)
      clear hs hg
      clear x0 x1 x2 x3 x4 x5 x6 x7 f0 f1 f2 f3 f4 f5 f6 f7
      obtain ⟨⟨x0, x1, x2, x3, x4, x5, x6, x7⟩, f0, f1, f2, f3, f4, f5, f6, f7⟩ := HW14.out.cells
      have hsz := asc8_getD (vs := [⟨#[32, 120]⟩, ⟨#[97, 10, 98]⟩, ⟨#[]⟩, ⟨#[121]⟩]) rfl (drawOf l (at_ + 1 + 1 + 1 + 1 + 1) 4).toNat
      revert hsz
      generalize List.getD ([⟨#[32, 120]⟩, ⟨#[97, 10, 98]⟩, ⟨#[]⟩, ⟨#[121]⟩] : List ByteArray) _ _ = vk
      intro hsz
      go_wp2_with fail
      refine (odd_any b A cap l (at_ + 1 + 1 + 1 + 1 + 1 + 1) 0 1000000 _ HW14.out.str (by omega) (by omega) (by omega) (by omega)).mono ?_
      rintro e W15 ⟨rfl, hs, hg⟩
      have HW15 := Lib.hid (HW14.out.call hs hg)
      clear hs hg
      clear x0 x1 x2 x3 x4 x5 x6 x7 f0 f1 f2 f3 f4 f5 f6 f7
      obtain ⟨⟨x0, x1, x2, x3, x4, x5, x6, x7⟩, f0, f1, f2, f3, f4, f5, f6, f7⟩ := HW15.out.cells
      generalize oddOf l (at_ + 1 + 1 + 1 + 1 + 1 + 1) 0 1000000 = od at *
      obtain ⟨⟨z0, z1, z2, z3, z4, z5, z6, z7⟩, g0, g1, g2, g3, g4, g5, g6, g7⟩ := HW15.out.outs
      go_wp2_with fail
      generalize hW : World.setCell _ _ _ = W99
      obtain ⟨hr, hst⟩ := rec_end (at_ := at_) (m := 30) ((HW15.out.set1 6 (.string vk) (Rec.mk r.name r.kind r.six r.hi r.lo r.to vk r.life) rfl (RecOk.mk HW15.out.ok.name HW15.out.ok.to hsz HW15.out.ok.hi)).set1 7 (.int .i64 od) (Rec.mk r.name r.kind r.six r.hi r.lo r.to vk od) rfl (RecOk.mk HW15.out.ok.name HW15.out.ok.to hsz HW15.out.ok.hi)) (by omega) (by omega) hW
      unfold recBox at hr
      obtain ⟨⟨y0, y1, y2, y3, y4, y5, y6, y7⟩, -⟩ := res8 hr
      dsimp only at y0 y1 y2 y3 y4 y5 y6 y7
      refine bodyPost_ret (v := .agg #[.string r.name, .int .i64 r.kind, .bool r.six, .int .u64 r.hi, .int .u64 r.lo, .string r.to, .string vk, .int .i64 od]) (by simp [results, Tryz.results17, go_sem, y0, y1, y2, y3, y4, y5, y6, y7]) rfl ⟨(Rec.mk r.name r.kind r.six r.hi r.lo r.to vk od), rfl, (RecOk.mk HW15.out.ok.name HW15.out.ok.to hsz HW15.out.ok.hi), hst⟩
  by_cases d1 : d = 1
  · subst d1
    go_wp2_with fail
    have r0 := draw_low l (at_ + 1 + 1) (3 - 1 + 1) (by omega)
    have r1 := draw_high l (at_ + 1 + 1) (3 - 1 + 1) (by omega)
    refine (range_any b A cap l (at_ + 1 + 1) 1 3 _ H2.out.str (by omega) (by omega) (by omega) (by omega) (by omega)).mono ?_
    rintro e W3 ⟨rfl, hs, hg⟩
    have H3 := Lib.hid (H2.out.call hs hg)
    generalize drawOf l (at_ + 1 + 1) (3 - 1 + 1) = rr at *
    clear hs hg x0 x1 x2 x3 x4 x5 x6 x7 f0 f1 f2 f3 f4 f5 f6 f7
    go_wp2_with fail
    refine (at_any1 (1 + rr) W3 (by omega) (by omega)).mono ?_
    rintro e W4 ⟨six, hi, lo, rfl, hhi, hb⟩
    have H4 := Lib.hid (H3.out.below hb)
    clear hb
    obtain ⟨⟨x0, x1, x2, x3, x4, x5, x6, x7⟩, f0, f1, f2, f3, f4, f5, f6, f7⟩ := H4.out.cells
    dsimp only at x0 x1 x2 x3 x4 x5 x6 x7
    go_wp2_with fail
    generalize hW : World.setCell _ _ _ = WZ
    have HZ : Hid (RcI w b A cap l _ w.heap.size R0 _ WZ) := Lib.hid (by rw [← hW]; exact ((((H4.out.set1 1 (.int .i64 1) (Rec.mk nm 1 false 0 0 ByteArray.empty ByteArray.empty lf) rfl (RecOk.mk H4.out.ok.name H4.out.ok.to H4.out.ok.words H4.out.ok.hi)).set1 2 (.bool six) (Rec.mk nm 1 six 0 0 ByteArray.empty ByteArray.empty lf) rfl (RecOk.mk H4.out.ok.name H4.out.ok.to H4.out.ok.words H4.out.ok.hi)).set1 3 (.int .u64 hi) (Rec.mk nm 1 six hi 0 ByteArray.empty ByteArray.empty lf) rfl (RecOk.mk H4.out.ok.name H4.out.ok.to H4.out.ok.words hhi)).set1 4 (.int .u64 lo) (Rec.mk nm 1 six hi lo ByteArray.empty ByteArray.empty lf) rfl (RecOk.mk H4.out.ok.name H4.out.ok.to H4.out.ok.words hhi)))
    clear hW
    clear x0 x1 x2 x3 x4 x5 x6 x7 f0 f1 f2 f3 f4 f5 f6 f7
    generalize hrr : Rec.mk _ _ _ _ _ _ _ _ = r at HZ
    clear hrr
    obtain ⟨⟨x0, x1, x2, x3, x4, x5, x6, x7⟩, f0, f1, f2, f3, f4, f5, f6, f7⟩ := HZ.out.cells
    go_wp2_with fail
    refine (flip_any b A cap l (at_ + 1 + 1 + 1) 40 _ HZ.out.str (by omega) (by omega) (by omega)).mono ?_
    rintro e W50 ⟨rfl, hs, hg⟩
    have H50 := Lib.hid (HZ.out.call hs hg)
    clear hs hg x0 x1 x2 x3 x4 x5 x6 x7 f0 f1 f2 f3 f4 f5 f6 f7
    obtain ⟨⟨x0, x1, x2, x3, x4, x5, x6, x7⟩, f0, f1, f2, f3, f4, f5, f6, f7⟩ := H50.out.cells
    generalize hfl : (drawOf l (at_ + 1 + 1 + 1) 40 == 0) = fl
    clear hfl
    cases fl
    · obtain ⟨⟨z0, z1, z2, z3, z4, z5, z6, z7⟩, g0, g1, g2, g3, g4, g5, g6, g7⟩ := H50.out.outs
      go_wp2_with fail
      generalize hW : World.setCell _ _ _ = W99
      obtain ⟨hr, hst⟩ := rec_end (at_ := at_) (m := 30) H50.out (by omega) (by omega) hW
      unfold recBox at hr
      obtain ⟨⟨y0, y1, y2, y3, y4, y5, y6, y7⟩, -⟩ := res8 hr
      refine bodyPost_ret (v := .agg #[.string r.name, .int .i64 r.kind, .bool r.six, .int .u64 r.hi, .int .u64 r.lo, .string r.to, .string r.words, .int .i64 r.life]) (by simp [results, Tryz.results17, go_sem, y0, y1, y2, y3, y4, y5, y6, y7]) rfl ⟨r, rfl, H50.out.ok, hst⟩
    · go_wp2_with fail
      have p0 := draw_low l (at_ + 1 + 1 + 1 + 1) 4 (by omega)
      have p1 := draw_high l (at_ + 1 + 1 + 1 + 1) 4 (by omega)
      refine (next_any b A cap l (at_ + 1 + 1 + 1 + 1) 4 _ H50.out.str (by omega) (by omega) (by omega)).mono ?_
      rintro e W51 ⟨rfl, hs, hg⟩
      have H51 := Lib.hid (H50.out.call hs hg)
      clear hs hg x0 x1 x2 x3 x4 x5 x6 x7 f0 f1 f2 f3 f4 f5 f6 f7
      obtain ⟨⟨x0, x1, x2, x3, x4, x5, x6, x7⟩, f0, f1, f2, f3, f4, f5, f6, f7⟩ := H51.out.cells
      generalize drawOf l (at_ + 1 + 1 + 1 + 1) 4 = q at *
      by_cases q0 : q = 0
      · subst q0
        go_wp2_with fail
        refine (pick_any b A cap l (at_ + 1 + 1 + 1 + 1 + 1) _ (H51.out.tmp _).str (by omega) _ [0, 2, 5] (by rw [heap_alloc_new]; rfl) (by have := H51.out.str.lt; omega) (by simp) (by simp) 3 3 rfl).mono ?_
        rintro e W16 ⟨rfl, hs, hg⟩
        have HW16 := Lib.hid ((H51.out.tmp _).call hs hg)
        clear hs hg
        clear x0 x1 x2 x3 x4 x5 x6 x7 f0 f1 f2 f3 f4 f5 f6 f7
        obtain ⟨⟨x0, x1, x2, x3, x4, x5, x6, x7⟩, f0, f1, f2, f3, f4, f5, f6, f7⟩ := HW16.out.cells
        generalize hvk : List.getD _ _ _ = vk
        clear hvk
        obtain ⟨⟨z0, z1, z2, z3, z4, z5, z6, z7⟩, g0, g1, g2, g3, g4, g5, g6, g7⟩ := HW16.out.outs
        go_wp2_with fail
        generalize hW : World.setCell _ _ _ = W99
        obtain ⟨hr, hst⟩ := rec_end (at_ := at_) (m := 30) (HW16.out.set1 1 (.int .i64 vk) (Rec.mk r.name vk r.six r.hi r.lo r.to r.words r.life) rfl (RecOk.mk HW16.out.ok.name HW16.out.ok.to HW16.out.ok.words HW16.out.ok.hi)) (by omega) (by omega) hW
        unfold recBox at hr
        obtain ⟨⟨y0, y1, y2, y3, y4, y5, y6, y7⟩, -⟩ := res8 hr
        dsimp only at y0 y1 y2 y3 y4 y5 y6 y7
        refine bodyPost_ret (v := .agg #[.string r.name, .int .i64 vk, .bool r.six, .int .u64 r.hi, .int .u64 r.lo, .string r.to, .string r.words, .int .i64 r.life]) (by simp [results, Tryz.results17, go_sem, y0, y1, y2, y3, y4, y5, y6, y7]) rfl ⟨(Rec.mk r.name vk r.six r.hi r.lo r.to r.words r.life), rfl, (RecOk.mk HW16.out.ok.name HW16.out.ok.to HW16.out.ok.words HW16.out.ok.hi), hst⟩
      by_cases q1 : q = 1
      · subst q1
        go_wp2_with fail
        refine (raw_any b A cap l (at_ + 1 + 1 + 1 + 1 + 1) _ H51.out.str (by omega)).mono ?_
        rintro e W17 ⟨six, hi, lo, rfl, hhi, xx, hx0, hx1, hs, hg⟩
        have HW17 := Lib.hid (H51.out.call hs hg)
        clear hs hg x0 x1 x2 x3 x4 x5 x6 x7 f0 f1 f2 f3 f4 f5 f6 f7
        obtain ⟨⟨x0, x1, x2, x3, x4, x5, x6, x7⟩, f0, f1, f2, f3, f4, f5, f6, f7⟩ := HW17.out.cells
        obtain ⟨⟨z0, z1, z2, z3, z4, z5, z6, z7⟩, g0, g1, g2, g3, g4, g5, g6, g7⟩ := HW17.out.outs
        go_wp2_with fail
        generalize hW : World.setCell _ _ _ = W99
        obtain ⟨hr, hst⟩ := rec_end (at_ := at_) (m := 30) (((HW17.out.set1 2 (.bool six) (Rec.mk r.name r.kind six r.hi r.lo r.to r.words r.life) rfl (RecOk.mk HW17.out.ok.name HW17.out.ok.to HW17.out.ok.words HW17.out.ok.hi)).set1 3 (.int .u64 hi) (Rec.mk r.name r.kind six hi r.lo r.to r.words r.life) rfl (RecOk.mk HW17.out.ok.name HW17.out.ok.to HW17.out.ok.words hhi)).set1 4 (.int .u64 lo) (Rec.mk r.name r.kind six hi lo r.to r.words r.life) rfl (RecOk.mk HW17.out.ok.name HW17.out.ok.to HW17.out.ok.words hhi)) (by omega) (by omega) hW
        unfold recBox at hr
        obtain ⟨⟨y0, y1, y2, y3, y4, y5, y6, y7⟩, -⟩ := res8 hr
        dsimp only at y0 y1 y2 y3 y4 y5 y6 y7
        refine bodyPost_ret (v := .agg #[.string r.name, .int .i64 r.kind, .bool six, .int .u64 hi, .int .u64 lo, .string r.to, .string r.words, .int .i64 r.life]) (by simp [results, Tryz.results17, go_sem, y0, y1, y2, y3, y4, y5, y6, y7]) rfl ⟨(Rec.mk r.name r.kind six hi lo r.to r.words r.life), rfl, (RecOk.mk HW17.out.ok.name HW17.out.ok.to HW17.out.ok.words hhi), hst⟩
      by_cases q2 : q = 2
      · subst q2
        go_wp2_with fail
        refine (some_any b A cap l (at_ + 1 + 1 + 1 + 1 + 1) _ (H51.out.tmp _).str (by omega) _ [⟨#[]⟩, ⟨#[65]⟩, ⟨#[120]⟩] (by rw [heap_alloc_new]; rfl) (by have := H51.out.str.lt; omega) (by simp) (by simp) 3 3 rfl).mono ?_
        rintro e W18 ⟨rfl, hs, hg⟩
        have HW18 := Lib.hid ((H51.out.tmp _).call hs hg)
        clear hs hg
        clear x0 x1 x2 x3 x4 x5 x6 x7 f0 f1 f2 f3 f4 f5 f6 f7
        obtain ⟨⟨x0, x1, x2, x3, x4, x5, x6, x7⟩, f0, f1, f2, f3, f4, f5, f6, f7⟩ := HW18.out.cells
        have hsz := size_getD (vs := [⟨#[]⟩, ⟨#[65]⟩, ⟨#[120]⟩]) rfl (drawOf l (at_ + 1 + 1 + 1 + 1 + 1) 3).toNat
        revert hsz
        generalize List.getD ([⟨#[]⟩, ⟨#[65]⟩, ⟨#[120]⟩] : List ByteArray) _ _ = vk
        intro hsz
        obtain ⟨⟨z0, z1, z2, z3, z4, z5, z6, z7⟩, g0, g1, g2, g3, g4, g5, g6, g7⟩ := HW18.out.outs
        go_wp2_with fail
        generalize hW : World.setCell _ _ _ = W99
        obtain ⟨hr, hst⟩ := rec_end (at_ := at_) (m := 30) (HW18.out.set1 5 (.string vk) (Rec.mk r.name r.kind r.six r.hi r.lo vk r.words r.life) rfl (RecOk.mk HW18.out.ok.name hsz HW18.out.ok.words HW18.out.ok.hi)) (by omega) (by omega) hW
        unfold recBox at hr
        obtain ⟨⟨y0, y1, y2, y3, y4, y5, y6, y7⟩, -⟩ := res8 hr
        dsimp only at y0 y1 y2 y3 y4 y5 y6 y7
        refine bodyPost_ret (v := .agg #[.string r.name, .int .i64 r.kind, .bool r.six, .int .u64 r.hi, .int .u64 r.lo, .string vk, .string r.words, .int .i64 r.life]) (by simp [results, Tryz.results17, go_sem, y0, y1, y2, y3, y4, y5, y6, y7]) rfl ⟨(Rec.mk r.name r.kind r.six r.hi r.lo vk r.words r.life), rfl, (RecOk.mk HW18.out.ok.name hsz HW18.out.ok.words HW18.out.ok.hi), hst⟩
      have e0 : (q == 0) = false := by simpa using q0
      have e1 : (q == 1) = false := by simpa using q1
      have e2 : (q == 2) = false := by simpa using q2
      go_wp2_with fail
      refine (some_any b A cap l (at_ + 1 + 1 + 1 + 1 + 1) _ (H51.out.tmp _).str (by omega) _ [⟨#[32, 120]⟩, ⟨#[97, 10, 98]⟩, ⟨#[]⟩, ⟨#[121]⟩] (by rw [heap_alloc_new]; rfl) (by have := H51.out.str.lt; omega) (by simp) (by simp) 4 4 rfl).mono ?_
      rintro e W19 ⟨rfl, hs, hg⟩
      have HW19 := Lib.hid ((H51.out.tmp _).call hs hg)
      clear hs hg
      clear x0 x1 x2 x3 x4 x5 x6 x7 f0 f1 f2 f3 f4 f5 f6 f7
      obtain ⟨⟨x0, x1, x2, x3, x4, x5, x6, x7⟩, f0, f1, f2, f3, f4, f5, f6, f7⟩ := HW19.out.cells
      have hsz := asc8_getD (vs := [⟨#[32, 120]⟩, ⟨#[97, 10, 98]⟩, ⟨#[]⟩, ⟨#[121]⟩]) rfl (drawOf l (at_ + 1 + 1 + 1 + 1 + 1) 4).toNat
      revert hsz
      generalize List.getD ([⟨#[32, 120]⟩, ⟨#[97, 10, 98]⟩, ⟨#[]⟩, ⟨#[121]⟩] : List ByteArray) _ _ = vk
      intro hsz
      go_wp2_with fail
      refine (odd_any b A cap l (at_ + 1 + 1 + 1 + 1 + 1 + 1) 0 1000000 _ HW19.out.str (by omega) (by omega) (by omega) (by omega)).mono ?_
      rintro e W20 ⟨rfl, hs, hg⟩
      have HW20 := Lib.hid (HW19.out.call hs hg)
      clear hs hg
      clear x0 x1 x2 x3 x4 x5 x6 x7 f0 f1 f2 f3 f4 f5 f6 f7
      obtain ⟨⟨x0, x1, x2, x3, x4, x5, x6, x7⟩, f0, f1, f2, f3, f4, f5, f6, f7⟩ := HW20.out.cells
      generalize oddOf l (at_ + 1 + 1 + 1 + 1 + 1 + 1) 0 1000000 = od at *
      obtain ⟨⟨z0, z1, z2, z3, z4, z5, z6, z7⟩, g0, g1, g2, g3, g4, g5, g6, g7⟩ := HW20.out.outs
      go_wp2_with fail
      generalize hW : World.setCell _ _ _ = W99
      obtain ⟨hr, hst⟩ := rec_end (at_ := at_) (m := 30) ((HW20.out.set1 6 (.string vk) (Rec.mk r.name r.kind r.six r.hi r.lo r.to vk r.life) rfl (RecOk.mk HW20.out.ok.name HW20.out.ok.to hsz HW20.out.ok.hi)).set1 7 (.int .i64 od) (Rec.mk r.name r.kind r.six r.hi r.lo r.to vk od) rfl (RecOk.mk HW20.out.ok.name HW20.out.ok.to hsz HW20.out.ok.hi)) (by omega) (by omega) hW
      unfold recBox at hr
      obtain ⟨⟨y0, y1, y2, y3, y4, y5, y6, y7⟩, -⟩ := res8 hr
      dsimp only at y0 y1 y2 y3 y4 y5 y6 y7
      refine bodyPost_ret (v := .agg #[.string r.name, .int .i64 r.kind, .bool r.six, .int .u64 r.hi, .int .u64 r.lo, .string r.to, .string vk, .int .i64 od]) (by simp [results, Tryz.results17, go_sem, y0, y1, y2, y3, y4, y5, y6, y7]) rfl ⟨(Rec.mk r.name r.kind r.six r.hi r.lo r.to vk od), rfl, (RecOk.mk HW20.out.ok.name HW20.out.ok.to hsz HW20.out.ok.hi), hst⟩
  by_cases d2 : d = 2
  · subst d2
    go_wp2_with fail
    have r0 := draw_low l (at_ + 1 + 1) (3 - 1 + 1) (by omega)
    have r1 := draw_high l (at_ + 1 + 1) (3 - 1 + 1) (by omega)
    refine (range_any b A cap l (at_ + 1 + 1) 1 3 _ H2.out.str (by omega) (by omega) (by omega) (by omega) (by omega)).mono ?_
    rintro e W3 ⟨rfl, hs, hg⟩
    have H3 := Lib.hid (H2.out.call hs hg)
    generalize drawOf l (at_ + 1 + 1) (3 - 1 + 1) = rr at *
    clear hs hg x0 x1 x2 x3 x4 x5 x6 x7 f0 f1 f2 f3 f4 f5 f6 f7
    go_wp2_with fail
    refine (sixAt_any (1 + rr) W3 (by omega) (by omega)).mono ?_
    rintro e W4 ⟨six, hi, lo, rfl, hhi, hb⟩
    have H4 := Lib.hid (H3.out.below hb)
    clear hb
    obtain ⟨⟨x0, x1, x2, x3, x4, x5, x6, x7⟩, f0, f1, f2, f3, f4, f5, f6, f7⟩ := H4.out.cells
    dsimp only at x0 x1 x2 x3 x4 x5 x6 x7
    go_wp2_with fail
    generalize hW : World.setCell _ _ _ = WZ
    have HZ : Hid (RcI w b A cap l _ w.heap.size R0 _ WZ) := Lib.hid (by rw [← hW]; exact ((((H4.out.set1 1 (.int .i64 28) (Rec.mk nm 28 false 0 0 ByteArray.empty ByteArray.empty lf) rfl (RecOk.mk H4.out.ok.name H4.out.ok.to H4.out.ok.words H4.out.ok.hi)).set1 2 (.bool six) (Rec.mk nm 28 six 0 0 ByteArray.empty ByteArray.empty lf) rfl (RecOk.mk H4.out.ok.name H4.out.ok.to H4.out.ok.words H4.out.ok.hi)).set1 3 (.int .u64 hi) (Rec.mk nm 28 six hi 0 ByteArray.empty ByteArray.empty lf) rfl (RecOk.mk H4.out.ok.name H4.out.ok.to H4.out.ok.words hhi)).set1 4 (.int .u64 lo) (Rec.mk nm 28 six hi lo ByteArray.empty ByteArray.empty lf) rfl (RecOk.mk H4.out.ok.name H4.out.ok.to H4.out.ok.words hhi)))
    clear hW
    clear x0 x1 x2 x3 x4 x5 x6 x7 f0 f1 f2 f3 f4 f5 f6 f7
    generalize hrr : Rec.mk _ _ _ _ _ _ _ _ = r at HZ
    clear hrr
    obtain ⟨⟨x0, x1, x2, x3, x4, x5, x6, x7⟩, f0, f1, f2, f3, f4, f5, f6, f7⟩ := HZ.out.cells
    go_wp2_with fail
    refine (flip_any b A cap l (at_ + 1 + 1 + 1) 40 _ HZ.out.str (by omega) (by omega) (by omega)).mono ?_
    rintro e W50 ⟨rfl, hs, hg⟩
    have H50 := Lib.hid (HZ.out.call hs hg)
    clear hs hg x0 x1 x2 x3 x4 x5 x6 x7 f0 f1 f2 f3 f4 f5 f6 f7
    obtain ⟨⟨x0, x1, x2, x3, x4, x5, x6, x7⟩, f0, f1, f2, f3, f4, f5, f6, f7⟩ := H50.out.cells
    generalize hfl : (drawOf l (at_ + 1 + 1 + 1) 40 == 0) = fl
    clear hfl
    cases fl
    · obtain ⟨⟨z0, z1, z2, z3, z4, z5, z6, z7⟩, g0, g1, g2, g3, g4, g5, g6, g7⟩ := H50.out.outs
      go_wp2_with fail
      generalize hW : World.setCell _ _ _ = W99
      obtain ⟨hr, hst⟩ := rec_end (at_ := at_) (m := 30) H50.out (by omega) (by omega) hW
      unfold recBox at hr
      obtain ⟨⟨y0, y1, y2, y3, y4, y5, y6, y7⟩, -⟩ := res8 hr
      refine bodyPost_ret (v := .agg #[.string r.name, .int .i64 r.kind, .bool r.six, .int .u64 r.hi, .int .u64 r.lo, .string r.to, .string r.words, .int .i64 r.life]) (by simp [results, Tryz.results17, go_sem, y0, y1, y2, y3, y4, y5, y6, y7]) rfl ⟨r, rfl, H50.out.ok, hst⟩
    · go_wp2_with fail
      have p0 := draw_low l (at_ + 1 + 1 + 1 + 1) 4 (by omega)
      have p1 := draw_high l (at_ + 1 + 1 + 1 + 1) 4 (by omega)
      refine (next_any b A cap l (at_ + 1 + 1 + 1 + 1) 4 _ H50.out.str (by omega) (by omega) (by omega)).mono ?_
      rintro e W51 ⟨rfl, hs, hg⟩
      have H51 := Lib.hid (H50.out.call hs hg)
      clear hs hg x0 x1 x2 x3 x4 x5 x6 x7 f0 f1 f2 f3 f4 f5 f6 f7
      obtain ⟨⟨x0, x1, x2, x3, x4, x5, x6, x7⟩, f0, f1, f2, f3, f4, f5, f6, f7⟩ := H51.out.cells
      generalize drawOf l (at_ + 1 + 1 + 1 + 1) 4 = q at *
      by_cases q0 : q = 0
      · subst q0
        go_wp2_with fail
        refine (pick_any b A cap l (at_ + 1 + 1 + 1 + 1 + 1) _ (H51.out.tmp _).str (by omega) _ [0, 2, 5] (by rw [heap_alloc_new]; rfl) (by have := H51.out.str.lt; omega) (by simp) (by simp) 3 3 rfl).mono ?_
        rintro e W21 ⟨rfl, hs, hg⟩
        have HW21 := Lib.hid ((H51.out.tmp _).call hs hg)
        clear hs hg
        clear x0 x1 x2 x3 x4 x5 x6 x7 f0 f1 f2 f3 f4 f5 f6 f7
        obtain ⟨⟨x0, x1, x2, x3, x4, x5, x6, x7⟩, f0, f1, f2, f3, f4, f5, f6, f7⟩ := HW21.out.cells
        generalize hvk : List.getD _ _ _ = vk
        clear hvk
        obtain ⟨⟨z0, z1, z2, z3, z4, z5, z6, z7⟩, g0, g1, g2, g3, g4, g5, g6, g7⟩ := HW21.out.outs
        go_wp2_with fail
        generalize hW : World.setCell _ _ _ = W99
        obtain ⟨hr, hst⟩ := rec_end (at_ := at_) (m := 30) (HW21.out.set1 1 (.int .i64 vk) (Rec.mk r.name vk r.six r.hi r.lo r.to r.words r.life) rfl (RecOk.mk HW21.out.ok.name HW21.out.ok.to HW21.out.ok.words HW21.out.ok.hi)) (by omega) (by omega) hW
        unfold recBox at hr
        obtain ⟨⟨y0, y1, y2, y3, y4, y5, y6, y7⟩, -⟩ := res8 hr
        dsimp only at y0 y1 y2 y3 y4 y5 y6 y7
        refine bodyPost_ret (v := .agg #[.string r.name, .int .i64 vk, .bool r.six, .int .u64 r.hi, .int .u64 r.lo, .string r.to, .string r.words, .int .i64 r.life]) (by simp [results, Tryz.results17, go_sem, y0, y1, y2, y3, y4, y5, y6, y7]) rfl ⟨(Rec.mk r.name vk r.six r.hi r.lo r.to r.words r.life), rfl, (RecOk.mk HW21.out.ok.name HW21.out.ok.to HW21.out.ok.words HW21.out.ok.hi), hst⟩
      by_cases q1 : q = 1
      · subst q1
        go_wp2_with fail
        refine (raw_any b A cap l (at_ + 1 + 1 + 1 + 1 + 1) _ H51.out.str (by omega)).mono ?_
        rintro e W22 ⟨six, hi, lo, rfl, hhi, xx, hx0, hx1, hs, hg⟩
        have HW22 := Lib.hid (H51.out.call hs hg)
        clear hs hg x0 x1 x2 x3 x4 x5 x6 x7 f0 f1 f2 f3 f4 f5 f6 f7
        obtain ⟨⟨x0, x1, x2, x3, x4, x5, x6, x7⟩, f0, f1, f2, f3, f4, f5, f6, f7⟩ := HW22.out.cells
        obtain ⟨⟨z0, z1, z2, z3, z4, z5, z6, z7⟩, g0, g1, g2, g3, g4, g5, g6, g7⟩ := HW22.out.outs
        go_wp2_with fail
        generalize hW : World.setCell _ _ _ = W99
        obtain ⟨hr, hst⟩ := rec_end (at_ := at_) (m := 30) (((HW22.out.set1 2 (.bool six) (Rec.mk r.name r.kind six r.hi r.lo r.to r.words r.life) rfl (RecOk.mk HW22.out.ok.name HW22.out.ok.to HW22.out.ok.words HW22.out.ok.hi)).set1 3 (.int .u64 hi) (Rec.mk r.name r.kind six hi r.lo r.to r.words r.life) rfl (RecOk.mk HW22.out.ok.name HW22.out.ok.to HW22.out.ok.words hhi)).set1 4 (.int .u64 lo) (Rec.mk r.name r.kind six hi lo r.to r.words r.life) rfl (RecOk.mk HW22.out.ok.name HW22.out.ok.to HW22.out.ok.words hhi)) (by omega) (by omega) hW
        unfold recBox at hr
        obtain ⟨⟨y0, y1, y2, y3, y4, y5, y6, y7⟩, -⟩ := res8 hr
        dsimp only at y0 y1 y2 y3 y4 y5 y6 y7
        refine bodyPost_ret (v := .agg #[.string r.name, .int .i64 r.kind, .bool six, .int .u64 hi, .int .u64 lo, .string r.to, .string r.words, .int .i64 r.life]) (by simp [results, Tryz.results17, go_sem, y0, y1, y2, y3, y4, y5, y6, y7]) rfl ⟨(Rec.mk r.name r.kind six hi lo r.to r.words r.life), rfl, (RecOk.mk HW22.out.ok.name HW22.out.ok.to HW22.out.ok.words hhi), hst⟩
      by_cases q2 : q = 2
      · subst q2
        go_wp2_with fail
        refine (some_any b A cap l (at_ + 1 + 1 + 1 + 1 + 1) _ (H51.out.tmp _).str (by omega) _ [⟨#[]⟩, ⟨#[65]⟩, ⟨#[120]⟩] (by rw [heap_alloc_new]; rfl) (by have := H51.out.str.lt; omega) (by simp) (by simp) 3 3 rfl).mono ?_
        rintro e W23 ⟨rfl, hs, hg⟩
        have HW23 := Lib.hid ((H51.out.tmp _).call hs hg)
        clear hs hg
        clear x0 x1 x2 x3 x4 x5 x6 x7 f0 f1 f2 f3 f4 f5 f6 f7
        obtain ⟨⟨x0, x1, x2, x3, x4, x5, x6, x7⟩, f0, f1, f2, f3, f4, f5, f6, f7⟩ := HW23.out.cells
        have hsz := size_getD (vs := [⟨#[]⟩, ⟨#[65]⟩, ⟨#[120]⟩]) rfl (drawOf l (at_ + 1 + 1 + 1 + 1 + 1) 3).toNat
        revert hsz
        generalize List.getD ([⟨#[]⟩, ⟨#[65]⟩, ⟨#[120]⟩] : List ByteArray) _ _ = vk
        intro hsz
        obtain ⟨⟨z0, z1, z2, z3, z4, z5, z6, z7⟩, g0, g1, g2, g3, g4, g5, g6, g7⟩ := HW23.out.outs
        go_wp2_with fail
        generalize hW : World.setCell _ _ _ = W99
        obtain ⟨hr, hst⟩ := rec_end (at_ := at_) (m := 30) (HW23.out.set1 5 (.string vk) (Rec.mk r.name r.kind r.six r.hi r.lo vk r.words r.life) rfl (RecOk.mk HW23.out.ok.name hsz HW23.out.ok.words HW23.out.ok.hi)) (by omega) (by omega) hW
        unfold recBox at hr
        obtain ⟨⟨y0, y1, y2, y3, y4, y5, y6, y7⟩, -⟩ := res8 hr
        dsimp only at y0 y1 y2 y3 y4 y5 y6 y7
        refine bodyPost_ret (v := .agg #[.string r.name, .int .i64 r.kind, .bool r.six, .int .u64 r.hi, .int .u64 r.lo, .string vk, .string r.words, .int .i64 r.life]) (by simp [results, Tryz.results17, go_sem, y0, y1, y2, y3, y4, y5, y6, y7]) rfl ⟨(Rec.mk r.name r.kind r.six r.hi r.lo vk r.words r.life), rfl, (RecOk.mk HW23.out.ok.name hsz HW23.out.ok.words HW23.out.ok.hi), hst⟩
      have e0 : (q == 0) = false := by simpa using q0
      have e1 : (q == 1) = false := by simpa using q1
      have e2 : (q == 2) = false := by simpa using q2
      go_wp2_with fail
      refine (some_any b A cap l (at_ + 1 + 1 + 1 + 1 + 1) _ (H51.out.tmp _).str (by omega) _ [⟨#[32, 120]⟩, ⟨#[97, 10, 98]⟩, ⟨#[]⟩, ⟨#[121]⟩] (by rw [heap_alloc_new]; rfl) (by have := H51.out.str.lt; omega) (by simp) (by simp) 4 4 rfl).mono ?_
      rintro e W24 ⟨rfl, hs, hg⟩
      have HW24 := Lib.hid ((H51.out.tmp _).call hs hg)
      clear hs hg
      clear x0 x1 x2 x3 x4 x5 x6 x7 f0 f1 f2 f3 f4 f5 f6 f7
      obtain ⟨⟨x0, x1, x2, x3, x4, x5, x6, x7⟩, f0, f1, f2, f3, f4, f5, f6, f7⟩ := HW24.out.cells
      have hsz := asc8_getD (vs := [⟨#[32, 120]⟩, ⟨#[97, 10, 98]⟩, ⟨#[]⟩, ⟨#[121]⟩]) rfl (drawOf l (at_ + 1 + 1 + 1 + 1 + 1) 4).toNat
      revert hsz
      generalize List.getD ([⟨#[32, 120]⟩, ⟨#[97, 10, 98]⟩, ⟨#[]⟩, ⟨#[121]⟩] : List ByteArray) _ _ = vk
      intro hsz
      go_wp2_with fail
      refine (odd_any b A cap l (at_ + 1 + 1 + 1 + 1 + 1 + 1) 0 1000000 _ HW24.out.str (by omega) (by omega) (by omega) (by omega)).mono ?_
      rintro e W25 ⟨rfl, hs, hg⟩
      have HW25 := Lib.hid (HW24.out.call hs hg)
      clear hs hg
      clear x0 x1 x2 x3 x4 x5 x6 x7 f0 f1 f2 f3 f4 f5 f6 f7
      obtain ⟨⟨x0, x1, x2, x3, x4, x5, x6, x7⟩, f0, f1, f2, f3, f4, f5, f6, f7⟩ := HW25.out.cells
      generalize oddOf l (at_ + 1 + 1 + 1 + 1 + 1 + 1) 0 1000000 = od at *
      obtain ⟨⟨z0, z1, z2, z3, z4, z5, z6, z7⟩, g0, g1, g2, g3, g4, g5, g6, g7⟩ := HW25.out.outs
      go_wp2_with fail
      generalize hW : World.setCell _ _ _ = W99
      obtain ⟨hr, hst⟩ := rec_end (at_ := at_) (m := 30) ((HW25.out.set1 6 (.string vk) (Rec.mk r.name r.kind r.six r.hi r.lo r.to vk r.life) rfl (RecOk.mk HW25.out.ok.name HW25.out.ok.to hsz HW25.out.ok.hi)).set1 7 (.int .i64 od) (Rec.mk r.name r.kind r.six r.hi r.lo r.to vk od) rfl (RecOk.mk HW25.out.ok.name HW25.out.ok.to hsz HW25.out.ok.hi)) (by omega) (by omega) hW
      unfold recBox at hr
      obtain ⟨⟨y0, y1, y2, y3, y4, y5, y6, y7⟩, -⟩ := res8 hr
      dsimp only at y0 y1 y2 y3 y4 y5 y6 y7
      refine bodyPost_ret (v := .agg #[.string r.name, .int .i64 r.kind, .bool r.six, .int .u64 r.hi, .int .u64 r.lo, .string r.to, .string vk, .int .i64 od]) (by simp [results, Tryz.results17, go_sem, y0, y1, y2, y3, y4, y5, y6, y7]) rfl ⟨(Rec.mk r.name r.kind r.six r.hi r.lo r.to vk od), rfl, (RecOk.mk HW25.out.ok.name HW25.out.ok.to hsz HW25.out.ok.hi), hst⟩
  by_cases d3 : d = 3
  · subst d3
    go_wp2_with fail
    refine (some_any b A cap l (at_ + 1 + 1) _ (H2.out.tmp _).str (by omega) _ [⟨#[]⟩, ⟨#[104, 105]⟩, ⟨#[97, 32, 98]⟩, ⟨#[118, 61, 49]⟩] (by rw [heap_alloc_new]; rfl) (by have := H2.out.str.lt; omega) (by simp) (by simp) 4 4 rfl).mono ?_
    rintro e W26 ⟨rfl, hs, hg⟩
    have HW26 := Lib.hid ((H2.out.tmp _).call hs hg)
    clear hs hg
    clear x0 x1 x2 x3 x4 x5 x6 x7 f0 f1 f2 f3 f4 f5 f6 f7
    obtain ⟨⟨x0, x1, x2, x3, x4, x5, x6, x7⟩, f0, f1, f2, f3, f4, f5, f6, f7⟩ := HW26.out.cells
    dsimp only at x0 x1 x2 x3 x4 x5 x6 x7
    have hsz := asc8_getD (vs := [⟨#[]⟩, ⟨#[104, 105]⟩, ⟨#[97, 32, 98]⟩, ⟨#[118, 61, 49]⟩]) rfl (drawOf l (at_ + 1 + 1) 4).toNat
    revert hsz
    generalize List.getD ([⟨#[]⟩, ⟨#[104, 105]⟩, ⟨#[97, 32, 98]⟩, ⟨#[118, 61, 49]⟩] : List ByteArray) _ _ = vk
    intro hsz
    go_wp2_with fail
    generalize hW : World.setCell _ _ _ = WZ
    have HZ : Hid (RcI w b A cap l _ w.heap.size R0 _ WZ) := Lib.hid (by rw [← hW]; exact ((HW26.out.set1 1 (.int .i64 16) (Rec.mk nm 16 false 0 0 ByteArray.empty ByteArray.empty lf) rfl (RecOk.mk HW26.out.ok.name HW26.out.ok.to HW26.out.ok.words HW26.out.ok.hi)).set1 6 (.string vk) (Rec.mk nm 16 false 0 0 ByteArray.empty vk lf) rfl (RecOk.mk HW26.out.ok.name HW26.out.ok.to hsz HW26.out.ok.hi)))
    clear hW
    clear x0 x1 x2 x3 x4 x5 x6 x7 f0 f1 f2 f3 f4 f5 f6 f7
    generalize hrr : Rec.mk _ _ _ _ _ _ _ _ = r at HZ
    clear hrr
    obtain ⟨⟨x0, x1, x2, x3, x4, x5, x6, x7⟩, f0, f1, f2, f3, f4, f5, f6, f7⟩ := HZ.out.cells
    go_wp2_with fail
    refine (flip_any b A cap l (at_ + 1 + 1 + 1) 40 _ HZ.out.str (by omega) (by omega) (by omega)).mono ?_
    rintro e W50 ⟨rfl, hs, hg⟩
    have H50 := Lib.hid (HZ.out.call hs hg)
    clear hs hg x0 x1 x2 x3 x4 x5 x6 x7 f0 f1 f2 f3 f4 f5 f6 f7
    obtain ⟨⟨x0, x1, x2, x3, x4, x5, x6, x7⟩, f0, f1, f2, f3, f4, f5, f6, f7⟩ := H50.out.cells
    generalize hfl : (drawOf l (at_ + 1 + 1 + 1) 40 == 0) = fl
    clear hfl
    cases fl
    · obtain ⟨⟨z0, z1, z2, z3, z4, z5, z6, z7⟩, g0, g1, g2, g3, g4, g5, g6, g7⟩ := H50.out.outs
      go_wp2_with fail
      generalize hW : World.setCell _ _ _ = W99
      obtain ⟨hr, hst⟩ := rec_end (at_ := at_) (m := 30) H50.out (by omega) (by omega) hW
      unfold recBox at hr
      obtain ⟨⟨y0, y1, y2, y3, y4, y5, y6, y7⟩, -⟩ := res8 hr
      refine bodyPost_ret (v := .agg #[.string r.name, .int .i64 r.kind, .bool r.six, .int .u64 r.hi, .int .u64 r.lo, .string r.to, .string r.words, .int .i64 r.life]) (by simp [results, Tryz.results17, go_sem, y0, y1, y2, y3, y4, y5, y6, y7]) rfl ⟨r, rfl, H50.out.ok, hst⟩
    · go_wp2_with fail
      have p0 := draw_low l (at_ + 1 + 1 + 1 + 1) 4 (by omega)
      have p1 := draw_high l (at_ + 1 + 1 + 1 + 1) 4 (by omega)
      refine (next_any b A cap l (at_ + 1 + 1 + 1 + 1) 4 _ H50.out.str (by omega) (by omega) (by omega)).mono ?_
      rintro e W51 ⟨rfl, hs, hg⟩
      have H51 := Lib.hid (H50.out.call hs hg)
      clear hs hg x0 x1 x2 x3 x4 x5 x6 x7 f0 f1 f2 f3 f4 f5 f6 f7
      obtain ⟨⟨x0, x1, x2, x3, x4, x5, x6, x7⟩, f0, f1, f2, f3, f4, f5, f6, f7⟩ := H51.out.cells
      generalize drawOf l (at_ + 1 + 1 + 1 + 1) 4 = q at *
      by_cases q0 : q = 0
      · subst q0
        go_wp2_with fail
        refine (pick_any b A cap l (at_ + 1 + 1 + 1 + 1 + 1) _ (H51.out.tmp _).str (by omega) _ [0, 2, 5] (by rw [heap_alloc_new]; rfl) (by have := H51.out.str.lt; omega) (by simp) (by simp) 3 3 rfl).mono ?_
        rintro e W27 ⟨rfl, hs, hg⟩
        have HW27 := Lib.hid ((H51.out.tmp _).call hs hg)
        clear hs hg
        clear x0 x1 x2 x3 x4 x5 x6 x7 f0 f1 f2 f3 f4 f5 f6 f7
        obtain ⟨⟨x0, x1, x2, x3, x4, x5, x6, x7⟩, f0, f1, f2, f3, f4, f5, f6, f7⟩ := HW27.out.cells
        generalize hvk : List.getD _ _ _ = vk
        clear hvk
        obtain ⟨⟨z0, z1, z2, z3, z4, z5, z6, z7⟩, g0, g1, g2, g3, g4, g5, g6, g7⟩ := HW27.out.outs
        go_wp2_with fail
        generalize hW : World.setCell _ _ _ = W99
        obtain ⟨hr, hst⟩ := rec_end (at_ := at_) (m := 30) (HW27.out.set1 1 (.int .i64 vk) (Rec.mk r.name vk r.six r.hi r.lo r.to r.words r.life) rfl (RecOk.mk HW27.out.ok.name HW27.out.ok.to HW27.out.ok.words HW27.out.ok.hi)) (by omega) (by omega) hW
        unfold recBox at hr
        obtain ⟨⟨y0, y1, y2, y3, y4, y5, y6, y7⟩, -⟩ := res8 hr
        dsimp only at y0 y1 y2 y3 y4 y5 y6 y7
        refine bodyPost_ret (v := .agg #[.string r.name, .int .i64 vk, .bool r.six, .int .u64 r.hi, .int .u64 r.lo, .string r.to, .string r.words, .int .i64 r.life]) (by simp [results, Tryz.results17, go_sem, y0, y1, y2, y3, y4, y5, y6, y7]) rfl ⟨(Rec.mk r.name vk r.six r.hi r.lo r.to r.words r.life), rfl, (RecOk.mk HW27.out.ok.name HW27.out.ok.to HW27.out.ok.words HW27.out.ok.hi), hst⟩
      by_cases q1 : q = 1
      · subst q1
        go_wp2_with fail
        refine (raw_any b A cap l (at_ + 1 + 1 + 1 + 1 + 1) _ H51.out.str (by omega)).mono ?_
        rintro e W28 ⟨six, hi, lo, rfl, hhi, xx, hx0, hx1, hs, hg⟩
        have HW28 := Lib.hid (H51.out.call hs hg)
        clear hs hg x0 x1 x2 x3 x4 x5 x6 x7 f0 f1 f2 f3 f4 f5 f6 f7
        obtain ⟨⟨x0, x1, x2, x3, x4, x5, x6, x7⟩, f0, f1, f2, f3, f4, f5, f6, f7⟩ := HW28.out.cells
        obtain ⟨⟨z0, z1, z2, z3, z4, z5, z6, z7⟩, g0, g1, g2, g3, g4, g5, g6, g7⟩ := HW28.out.outs
        go_wp2_with fail
        generalize hW : World.setCell _ _ _ = W99
        obtain ⟨hr, hst⟩ := rec_end (at_ := at_) (m := 30) (((HW28.out.set1 2 (.bool six) (Rec.mk r.name r.kind six r.hi r.lo r.to r.words r.life) rfl (RecOk.mk HW28.out.ok.name HW28.out.ok.to HW28.out.ok.words HW28.out.ok.hi)).set1 3 (.int .u64 hi) (Rec.mk r.name r.kind six hi r.lo r.to r.words r.life) rfl (RecOk.mk HW28.out.ok.name HW28.out.ok.to HW28.out.ok.words hhi)).set1 4 (.int .u64 lo) (Rec.mk r.name r.kind six hi lo r.to r.words r.life) rfl (RecOk.mk HW28.out.ok.name HW28.out.ok.to HW28.out.ok.words hhi)) (by omega) (by omega) hW
        unfold recBox at hr
        obtain ⟨⟨y0, y1, y2, y3, y4, y5, y6, y7⟩, -⟩ := res8 hr
        dsimp only at y0 y1 y2 y3 y4 y5 y6 y7
        refine bodyPost_ret (v := .agg #[.string r.name, .int .i64 r.kind, .bool six, .int .u64 hi, .int .u64 lo, .string r.to, .string r.words, .int .i64 r.life]) (by simp [results, Tryz.results17, go_sem, y0, y1, y2, y3, y4, y5, y6, y7]) rfl ⟨(Rec.mk r.name r.kind six hi lo r.to r.words r.life), rfl, (RecOk.mk HW28.out.ok.name HW28.out.ok.to HW28.out.ok.words hhi), hst⟩
      by_cases q2 : q = 2
      · subst q2
        go_wp2_with fail
        refine (some_any b A cap l (at_ + 1 + 1 + 1 + 1 + 1) _ (H51.out.tmp _).str (by omega) _ [⟨#[]⟩, ⟨#[65]⟩, ⟨#[120]⟩] (by rw [heap_alloc_new]; rfl) (by have := H51.out.str.lt; omega) (by simp) (by simp) 3 3 rfl).mono ?_
        rintro e W29 ⟨rfl, hs, hg⟩
        have HW29 := Lib.hid ((H51.out.tmp _).call hs hg)
        clear hs hg
        clear x0 x1 x2 x3 x4 x5 x6 x7 f0 f1 f2 f3 f4 f5 f6 f7
        obtain ⟨⟨x0, x1, x2, x3, x4, x5, x6, x7⟩, f0, f1, f2, f3, f4, f5, f6, f7⟩ := HW29.out.cells
        have hsz := size_getD (vs := [⟨#[]⟩, ⟨#[65]⟩, ⟨#[120]⟩]) rfl (drawOf l (at_ + 1 + 1 + 1 + 1 + 1) 3).toNat
        revert hsz
        generalize List.getD ([⟨#[]⟩, ⟨#[65]⟩, ⟨#[120]⟩] : List ByteArray) _ _ = vk
        intro hsz
        obtain ⟨⟨z0, z1, z2, z3, z4, z5, z6, z7⟩, g0, g1, g2, g3, g4, g5, g6, g7⟩ := HW29.out.outs
        go_wp2_with fail
        generalize hW : World.setCell _ _ _ = W99
        obtain ⟨hr, hst⟩ := rec_end (at_ := at_) (m := 30) (HW29.out.set1 5 (.string vk) (Rec.mk r.name r.kind r.six r.hi r.lo vk r.words r.life) rfl (RecOk.mk HW29.out.ok.name hsz HW29.out.ok.words HW29.out.ok.hi)) (by omega) (by omega) hW
        unfold recBox at hr
        obtain ⟨⟨y0, y1, y2, y3, y4, y5, y6, y7⟩, -⟩ := res8 hr
        dsimp only at y0 y1 y2 y3 y4 y5 y6 y7
        refine bodyPost_ret (v := .agg #[.string r.name, .int .i64 r.kind, .bool r.six, .int .u64 r.hi, .int .u64 r.lo, .string vk, .string r.words, .int .i64 r.life]) (by simp [results, Tryz.results17, go_sem, y0, y1, y2, y3, y4, y5, y6, y7]) rfl ⟨(Rec.mk r.name r.kind r.six r.hi r.lo vk r.words r.life), rfl, (RecOk.mk HW29.out.ok.name hsz HW29.out.ok.words HW29.out.ok.hi), hst⟩
      have e0 : (q == 0) = false := by simpa using q0
      have e1 : (q == 1) = false := by simpa using q1
      have e2 : (q == 2) = false := by simpa using q2
      go_wp2_with fail
      refine (some_any b A cap l (at_ + 1 + 1 + 1 + 1 + 1) _ (H51.out.tmp _).str (by omega) _ [⟨#[32, 120]⟩, ⟨#[97, 10, 98]⟩, ⟨#[]⟩, ⟨#[121]⟩] (by rw [heap_alloc_new]; rfl) (by have := H51.out.str.lt; omega) (by simp) (by simp) 4 4 rfl).mono ?_
      rintro e W30 ⟨rfl, hs, hg⟩
      have HW30 := Lib.hid ((H51.out.tmp _).call hs hg)
      clear hs hg
      clear x0 x1 x2 x3 x4 x5 x6 x7 f0 f1 f2 f3 f4 f5 f6 f7
      obtain ⟨⟨x0, x1, x2, x3, x4, x5, x6, x7⟩, f0, f1, f2, f3, f4, f5, f6, f7⟩ := HW30.out.cells
      have hsz := asc8_getD (vs := [⟨#[32, 120]⟩, ⟨#[97, 10, 98]⟩, ⟨#[]⟩, ⟨#[121]⟩]) rfl (drawOf l (at_ + 1 + 1 + 1 + 1 + 1) 4).toNat
      revert hsz
      generalize List.getD ([⟨#[32, 120]⟩, ⟨#[97, 10, 98]⟩, ⟨#[]⟩, ⟨#[121]⟩] : List ByteArray) _ _ = vk
      intro hsz
      go_wp2_with fail
      refine (odd_any b A cap l (at_ + 1 + 1 + 1 + 1 + 1 + 1) 0 1000000 _ HW30.out.str (by omega) (by omega) (by omega) (by omega)).mono ?_
      rintro e W31 ⟨rfl, hs, hg⟩
      have HW31 := Lib.hid (HW30.out.call hs hg)
      clear hs hg
      clear x0 x1 x2 x3 x4 x5 x6 x7 f0 f1 f2 f3 f4 f5 f6 f7
      obtain ⟨⟨x0, x1, x2, x3, x4, x5, x6, x7⟩, f0, f1, f2, f3, f4, f5, f6, f7⟩ := HW31.out.cells
      generalize oddOf l (at_ + 1 + 1 + 1 + 1 + 1 + 1) 0 1000000 = od at *
      obtain ⟨⟨z0, z1, z2, z3, z4, z5, z6, z7⟩, g0, g1, g2, g3, g4, g5, g6, g7⟩ := HW31.out.outs
      go_wp2_with fail
      generalize hW : World.setCell _ _ _ = W99
      obtain ⟨hr, hst⟩ := rec_end (at_ := at_) (m := 30) ((HW31.out.set1 6 (.string vk) (Rec.mk r.name r.kind r.six r.hi r.lo r.to vk r.life) rfl (RecOk.mk HW31.out.ok.name HW31.out.ok.to hsz HW31.out.ok.hi)).set1 7 (.int .i64 od) (Rec.mk r.name r.kind r.six r.hi r.lo r.to vk od) rfl (RecOk.mk HW31.out.ok.name HW31.out.ok.to hsz HW31.out.ok.hi)) (by omega) (by omega) hW
      unfold recBox at hr
      obtain ⟨⟨y0, y1, y2, y3, y4, y5, y6, y7⟩, -⟩ := res8 hr
      dsimp only at y0 y1 y2 y3 y4 y5 y6 y7
      refine bodyPost_ret (v := .agg #[.string r.name, .int .i64 r.kind, .bool r.six, .int .u64 r.hi, .int .u64 r.lo, .string r.to, .string vk, .int .i64 od]) (by simp [results, Tryz.results17, go_sem, y0, y1, y2, y3, y4, y5, y6, y7]) rfl ⟨(Rec.mk r.name r.kind r.six r.hi r.lo r.to vk od), rfl, (RecOk.mk HW31.out.ok.name HW31.out.ok.to hsz HW31.out.ok.hi), hst⟩
  by_cases d4 : d = 4
  · subst d4
    go_wp2_with fail
    refine (some_any b A cap l (at_ + 1 + 1) _ (H2.out.tmp _).str (by omega) _ [⟨#[97, 46, 110, 101, 116, 46, 120]⟩, ⟨#[98, 46, 110, 101, 116, 46, 120]⟩] (by rw [heap_alloc_new]; rfl) (by have := H2.out.str.lt; omega) (by simp) (by simp) 2 2 rfl).mono ?_
    rintro e W32 ⟨rfl, hs, hg⟩
    have HW32 := Lib.hid ((H2.out.tmp _).call hs hg)
    clear hs hg
    clear x0 x1 x2 x3 x4 x5 x6 x7 f0 f1 f2 f3 f4 f5 f6 f7
    obtain ⟨⟨x0, x1, x2, x3, x4, x5, x6, x7⟩, f0, f1, f2, f3, f4, f5, f6, f7⟩ := HW32.out.cells
    dsimp only at x0 x1 x2 x3 x4 x5 x6 x7
    have hsz := size_getD (vs := [⟨#[97, 46, 110, 101, 116, 46, 120]⟩, ⟨#[98, 46, 110, 101, 116, 46, 120]⟩]) rfl (drawOf l (at_ + 1 + 1) 2).toNat
    revert hsz
    generalize List.getD ([⟨#[97, 46, 110, 101, 116, 46, 120]⟩, ⟨#[98, 46, 110, 101, 116, 46, 120]⟩] : List ByteArray) _ _ = vk
    intro hsz
    go_wp2_with fail
    generalize hW : World.setCell _ _ _ = WZ
    have HZ : Hid (RcI w b A cap l _ w.heap.size R0 _ WZ) := Lib.hid (by rw [← hW]; exact ((HW32.out.set1 1 (.int .i64 12) (Rec.mk nm 12 false 0 0 ByteArray.empty ByteArray.empty lf) rfl (RecOk.mk HW32.out.ok.name HW32.out.ok.to HW32.out.ok.words HW32.out.ok.hi)).set1 5 (.string vk) (Rec.mk nm 12 false 0 0 vk ByteArray.empty lf) rfl (RecOk.mk HW32.out.ok.name hsz HW32.out.ok.words HW32.out.ok.hi)))
    clear hW
    clear x0 x1 x2 x3 x4 x5 x6 x7 f0 f1 f2 f3 f4 f5 f6 f7
    generalize hrr : Rec.mk _ _ _ _ _ _ _ _ = r at HZ
    clear hrr
    obtain ⟨⟨x0, x1, x2, x3, x4, x5, x6, x7⟩, f0, f1, f2, f3, f4, f5, f6, f7⟩ := HZ.out.cells
    go_wp2_with fail
    refine (flip_any b A cap l (at_ + 1 + 1 + 1) 40 _ HZ.out.str (by omega) (by omega) (by omega)).mono ?_
    rintro e W50 ⟨rfl, hs, hg⟩
    have H50 := Lib.hid (HZ.out.call hs hg)
    clear hs hg x0 x1 x2 x3 x4 x5 x6 x7 f0 f1 f2 f3 f4 f5 f6 f7
    obtain ⟨⟨x0, x1, x2, x3, x4, x5, x6, x7⟩, f0, f1, f2, f3, f4, f5, f6, f7⟩ := H50.out.cells
    generalize hfl : (drawOf l (at_ + 1 + 1 + 1) 40 == 0) = fl
    clear hfl
    cases fl
    · obtain ⟨⟨z0, z1, z2, z3, z4, z5, z6, z7⟩, g0, g1, g2, g3, g4, g5, g6, g7⟩ := H50.out.outs
      go_wp2_with fail
      generalize hW : World.setCell _ _ _ = W99
      obtain ⟨hr, hst⟩ := rec_end (at_ := at_) (m := 30) H50.out (by omega) (by omega) hW
      unfold recBox at hr
      obtain ⟨⟨y0, y1, y2, y3, y4, y5, y6, y7⟩, -⟩ := res8 hr
      refine bodyPost_ret (v := .agg #[.string r.name, .int .i64 r.kind, .bool r.six, .int .u64 r.hi, .int .u64 r.lo, .string r.to, .string r.words, .int .i64 r.life]) (by simp [results, Tryz.results17, go_sem, y0, y1, y2, y3, y4, y5, y6, y7]) rfl ⟨r, rfl, H50.out.ok, hst⟩
    · go_wp2_with fail
      have p0 := draw_low l (at_ + 1 + 1 + 1 + 1) 4 (by omega)
      have p1 := draw_high l (at_ + 1 + 1 + 1 + 1) 4 (by omega)
      refine (next_any b A cap l (at_ + 1 + 1 + 1 + 1) 4 _ H50.out.str (by omega) (by omega) (by omega)).mono ?_
      rintro e W51 ⟨rfl, hs, hg⟩
      have H51 := Lib.hid (H50.out.call hs hg)
      clear hs hg x0 x1 x2 x3 x4 x5 x6 x7 f0 f1 f2 f3 f4 f5 f6 f7
      obtain ⟨⟨x0, x1, x2, x3, x4, x5, x6, x7⟩, f0, f1, f2, f3, f4, f5, f6, f7⟩ := H51.out.cells
      generalize drawOf l (at_ + 1 + 1 + 1 + 1) 4 = q at *
      by_cases q0 : q = 0
      · subst q0
        go_wp2_with fail
        refine (pick_any b A cap l (at_ + 1 + 1 + 1 + 1 + 1) _ (H51.out.tmp _).str (by omega) _ [0, 2, 5] (by rw [heap_alloc_new]; rfl) (by have := H51.out.str.lt; omega) (by simp) (by simp) 3 3 rfl).mono ?_
        rintro e W33 ⟨rfl, hs, hg⟩
        have HW33 := Lib.hid ((H51.out.tmp _).call hs hg)
        clear hs hg
        clear x0 x1 x2 x3 x4 x5 x6 x7 f0 f1 f2 f3 f4 f5 f6 f7
        obtain ⟨⟨x0, x1, x2, x3, x4, x5, x6, x7⟩, f0, f1, f2, f3, f4, f5, f6, f7⟩ := HW33.out.cells
        generalize hvk : List.getD _ _ _ = vk
        clear hvk
        obtain ⟨⟨z0, z1, z2, z3, z4, z5, z6, z7⟩, g0, g1, g2, g3, g4, g5, g6, g7⟩ := HW33.out.outs
        go_wp2_with fail
        generalize hW : World.setCell _ _ _ = W99
        obtain ⟨hr, hst⟩ := rec_end (at_ := at_) (m := 30) (HW33.out.set1 1 (.int .i64 vk) (Rec.mk r.name vk r.six r.hi r.lo r.to r.words r.life) rfl (RecOk.mk HW33.out.ok.name HW33.out.ok.to HW33.out.ok.words HW33.out.ok.hi)) (by omega) (by omega) hW
        unfold recBox at hr
        obtain ⟨⟨y0, y1, y2, y3, y4, y5, y6, y7⟩, -⟩ := res8 hr
        dsimp only at y0 y1 y2 y3 y4 y5 y6 y7
        refine bodyPost_ret (v := .agg #[.string r.name, .int .i64 vk, .bool r.six, .int .u64 r.hi, .int .u64 r.lo, .string r.to, .string r.words, .int .i64 r.life]) (by simp [results, Tryz.results17, go_sem, y0, y1, y2, y3, y4, y5, y6, y7]) rfl ⟨(Rec.mk r.name vk r.six r.hi r.lo r.to r.words r.life), rfl, (RecOk.mk HW33.out.ok.name HW33.out.ok.to HW33.out.ok.words HW33.out.ok.hi), hst⟩
      by_cases q1 : q = 1
      · subst q1
        go_wp2_with fail
        refine (raw_any b A cap l (at_ + 1 + 1 + 1 + 1 + 1) _ H51.out.str (by omega)).mono ?_
        rintro e W34 ⟨six, hi, lo, rfl, hhi, xx, hx0, hx1, hs, hg⟩
        have HW34 := Lib.hid (H51.out.call hs hg)
        clear hs hg x0 x1 x2 x3 x4 x5 x6 x7 f0 f1 f2 f3 f4 f5 f6 f7
        obtain ⟨⟨x0, x1, x2, x3, x4, x5, x6, x7⟩, f0, f1, f2, f3, f4, f5, f6, f7⟩ := HW34.out.cells
        obtain ⟨⟨z0, z1, z2, z3, z4, z5, z6, z7⟩, g0, g1, g2, g3, g4, g5, g6, g7⟩ := HW34.out.outs
        go_wp2_with fail
        generalize hW : World.setCell _ _ _ = W99
        obtain ⟨hr, hst⟩ := rec_end (at_ := at_) (m := 30) (((HW34.out.set1 2 (.bool six) (Rec.mk r.name r.kind six r.hi r.lo r.to r.words r.life) rfl (RecOk.mk HW34.out.ok.name HW34.out.ok.to HW34.out.ok.words HW34.out.ok.hi)).set1 3 (.int .u64 hi) (Rec.mk r.name r.kind six hi r.lo r.to r.words r.life) rfl (RecOk.mk HW34.out.ok.name HW34.out.ok.to HW34.out.ok.words hhi)).set1 4 (.int .u64 lo) (Rec.mk r.name r.kind six hi lo r.to r.words r.life) rfl (RecOk.mk HW34.out.ok.name HW34.out.ok.to HW34.out.ok.words hhi)) (by omega) (by omega) hW
        unfold recBox at hr
        obtain ⟨⟨y0, y1, y2, y3, y4, y5, y6, y7⟩, -⟩ := res8 hr
        dsimp only at y0 y1 y2 y3 y4 y5 y6 y7
        refine bodyPost_ret (v := .agg #[.string r.name, .int .i64 r.kind, .bool six, .int .u64 hi, .int .u64 lo, .string r.to, .string r.words, .int .i64 r.life]) (by simp [results, Tryz.results17, go_sem, y0, y1, y2, y3, y4, y5, y6, y7]) rfl ⟨(Rec.mk r.name r.kind six hi lo r.to r.words r.life), rfl, (RecOk.mk HW34.out.ok.name HW34.out.ok.to HW34.out.ok.words hhi), hst⟩
      by_cases q2 : q = 2
      · subst q2
        go_wp2_with fail
        refine (some_any b A cap l (at_ + 1 + 1 + 1 + 1 + 1) _ (H51.out.tmp _).str (by omega) _ [⟨#[]⟩, ⟨#[65]⟩, ⟨#[120]⟩] (by rw [heap_alloc_new]; rfl) (by have := H51.out.str.lt; omega) (by simp) (by simp) 3 3 rfl).mono ?_
        rintro e W35 ⟨rfl, hs, hg⟩
        have HW35 := Lib.hid ((H51.out.tmp _).call hs hg)
        clear hs hg
        clear x0 x1 x2 x3 x4 x5 x6 x7 f0 f1 f2 f3 f4 f5 f6 f7
        obtain ⟨⟨x0, x1, x2, x3, x4, x5, x6, x7⟩, f0, f1, f2, f3, f4, f5, f6, f7⟩ := HW35.out.cells
        have hsz := size_getD (vs := [⟨#[]⟩, ⟨#[65]⟩, ⟨#[120]⟩]) rfl (drawOf l (at_ + 1 + 1 + 1 + 1 + 1) 3).toNat
        revert hsz
        generalize List.getD ([⟨#[]⟩, ⟨#[65]⟩, ⟨#[120]⟩] : List ByteArray) _ _ = vk
        intro hsz
        obtain ⟨⟨z0, z1, z2, z3, z4, z5, z6, z7⟩, g0, g1, g2, g3, g4, g5, g6, g7⟩ := HW35.out.outs
        go_wp2_with fail
        generalize hW : World.setCell _ _ _ = W99
        obtain ⟨hr, hst⟩ := rec_end (at_ := at_) (m := 30) (HW35.out.set1 5 (.string vk) (Rec.mk r.name r.kind r.six r.hi r.lo vk r.words r.life) rfl (RecOk.mk HW35.out.ok.name hsz HW35.out.ok.words HW35.out.ok.hi)) (by omega) (by omega) hW
        unfold recBox at hr
        obtain ⟨⟨y0, y1, y2, y3, y4, y5, y6, y7⟩, -⟩ := res8 hr
        dsimp only at y0 y1 y2 y3 y4 y5 y6 y7
        refine bodyPost_ret (v := .agg #[.string r.name, .int .i64 r.kind, .bool r.six, .int .u64 r.hi, .int .u64 r.lo, .string vk, .string r.words, .int .i64 r.life]) (by simp [results, Tryz.results17, go_sem, y0, y1, y2, y3, y4, y5, y6, y7]) rfl ⟨(Rec.mk r.name r.kind r.six r.hi r.lo vk r.words r.life), rfl, (RecOk.mk HW35.out.ok.name hsz HW35.out.ok.words HW35.out.ok.hi), hst⟩
      have e0 : (q == 0) = false := by simpa using q0
      have e1 : (q == 1) = false := by simpa using q1
      have e2 : (q == 2) = false := by simpa using q2
      go_wp2_with fail
      refine (some_any b A cap l (at_ + 1 + 1 + 1 + 1 + 1) _ (H51.out.tmp _).str (by omega) _ [⟨#[32, 120]⟩, ⟨#[97, 10, 98]⟩, ⟨#[]⟩, ⟨#[121]⟩] (by rw [heap_alloc_new]; rfl) (by have := H51.out.str.lt; omega) (by simp) (by simp) 4 4 rfl).mono ?_
      rintro e W36 ⟨rfl, hs, hg⟩
      have HW36 := Lib.hid ((H51.out.tmp _).call hs hg)
      clear hs hg
      clear x0 x1 x2 x3 x4 x5 x6 x7 f0 f1 f2 f3 f4 f5 f6 f7
      obtain ⟨⟨x0, x1, x2, x3, x4, x5, x6, x7⟩, f0, f1, f2, f3, f4, f5, f6, f7⟩ := HW36.out.cells
      have hsz := asc8_getD (vs := [⟨#[32, 120]⟩, ⟨#[97, 10, 98]⟩, ⟨#[]⟩, ⟨#[121]⟩]) rfl (drawOf l (at_ + 1 + 1 + 1 + 1 + 1) 4).toNat
      revert hsz
      generalize List.getD ([⟨#[32, 120]⟩, ⟨#[97, 10, 98]⟩, ⟨#[]⟩, ⟨#[121]⟩] : List ByteArray) _ _ = vk
      intro hsz
      go_wp2_with fail
      refine (odd_any b A cap l (at_ + 1 + 1 + 1 + 1 + 1 + 1) 0 1000000 _ HW36.out.str (by omega) (by omega) (by omega) (by omega)).mono ?_
      rintro e W37 ⟨rfl, hs, hg⟩
      have HW37 := Lib.hid (HW36.out.call hs hg)
      clear hs hg
      clear x0 x1 x2 x3 x4 x5 x6 x7 f0 f1 f2 f3 f4 f5 f6 f7
      obtain ⟨⟨x0, x1, x2, x3, x4, x5, x6, x7⟩, f0, f1, f2, f3, f4, f5, f6, f7⟩ := HW37.out.cells
      generalize oddOf l (at_ + 1 + 1 + 1 + 1 + 1 + 1) 0 1000000 = od at *
      obtain ⟨⟨z0, z1, z2, z3, z4, z5, z6, z7⟩, g0, g1, g2, g3, g4, g5, g6, g7⟩ := HW37.out.outs
      go_wp2_with fail
      generalize hW : World.setCell _ _ _ = W99
      obtain ⟨hr, hst⟩ := rec_end (at_ := at_) (m := 30) ((HW37.out.set1 6 (.string vk) (Rec.mk r.name r.kind r.six r.hi r.lo r.to vk r.life) rfl (RecOk.mk HW37.out.ok.name HW37.out.ok.to hsz HW37.out.ok.hi)).set1 7 (.int .i64 od) (Rec.mk r.name r.kind r.six r.hi r.lo r.to vk od) rfl (RecOk.mk HW37.out.ok.name HW37.out.ok.to hsz HW37.out.ok.hi)) (by omega) (by omega) hW
      unfold recBox at hr
      obtain ⟨⟨y0, y1, y2, y3, y4, y5, y6, y7⟩, -⟩ := res8 hr
      dsimp only at y0 y1 y2 y3 y4 y5 y6 y7
      refine bodyPost_ret (v := .agg #[.string r.name, .int .i64 r.kind, .bool r.six, .int .u64 r.hi, .int .u64 r.lo, .string r.to, .string vk, .int .i64 od]) (by simp [results, Tryz.results17, go_sem, y0, y1, y2, y3, y4, y5, y6, y7]) rfl ⟨(Rec.mk r.name r.kind r.six r.hi r.lo r.to vk od), rfl, (RecOk.mk HW37.out.ok.name HW37.out.ok.to hsz HW37.out.ok.hi), hst⟩
  have e0 : (d == 0) = false := by simpa using d0
  have e1 : (d == 1) = false := by simpa using d1
  have e2 : (d == 2) = false := by simpa using d2
  have e3 : (d == 3) = false := by simpa using d3
  have e4 : (d == 4) = false := by simpa using d4
  go_wp2_with fail
  refine (some_any b A cap l (at_ + 1 + 1) _ (H2.out.tmp _).str (by omega) _ [⟨#[97, 46, 110, 101, 116, 46, 120]⟩, ⟨#[98, 46, 110, 101, 116, 46, 120]⟩, ⟨#[99, 46, 110, 101, 116, 46, 120]⟩, ⟨#[113, 46, 108, 97, 98, 46, 110, 101, 116, 46, 120]⟩, ⟨#[100, 46, 110, 101, 116, 46, 120]⟩, ⟨#[111, 116, 104, 101, 114]⟩] (by rw [heap_alloc_new]; rfl) (by have := H2.out.str.lt; omega) (by simp) (by simp) 6 6 rfl).mono ?_
  rintro e W38 ⟨rfl, hs, hg⟩
  have HW38 := Lib.hid ((H2.out.tmp _).call hs hg)
  clear hs hg
  clear x0 x1 x2 x3 x4 x5 x6 x7 f0 f1 f2 f3 f4 f5 f6 f7
  obtain ⟨⟨x0, x1, x2, x3, x4, x5, x6, x7⟩, f0, f1, f2, f3, f4, f5, f6, f7⟩ := HW38.out.cells
  dsimp only at x0 x1 x2 x3 x4 x5 x6 x7
  have hsz := size_getD (vs := [⟨#[97, 46, 110, 101, 116, 46, 120]⟩, ⟨#[98, 46, 110, 101, 116, 46, 120]⟩, ⟨#[99, 46, 110, 101, 116, 46, 120]⟩, ⟨#[113, 46, 108, 97, 98, 46, 110, 101, 116, 46, 120]⟩, ⟨#[100, 46, 110, 101, 116, 46, 120]⟩, ⟨#[111, 116, 104, 101, 114]⟩]) rfl (drawOf l (at_ + 1 + 1) 6).toNat
  revert hsz
  generalize List.getD ([⟨#[97, 46, 110, 101, 116, 46, 120]⟩, ⟨#[98, 46, 110, 101, 116, 46, 120]⟩, ⟨#[99, 46, 110, 101, 116, 46, 120]⟩, ⟨#[113, 46, 108, 97, 98, 46, 110, 101, 116, 46, 120]⟩, ⟨#[100, 46, 110, 101, 116, 46, 120]⟩, ⟨#[111, 116, 104, 101, 114]⟩] : List ByteArray) _ _ = vk
  intro hsz
  go_wp2_with fail
  generalize hW : World.setCell _ _ _ = WZ
  have HZ : Hid (RcI w b A cap l _ w.heap.size R0 _ WZ) := Lib.hid (by rw [← hW]; exact ((HW38.out.set1 1 (.int .i64 5) (Rec.mk nm 5 false 0 0 ByteArray.empty ByteArray.empty lf) rfl (RecOk.mk HW38.out.ok.name HW38.out.ok.to HW38.out.ok.words HW38.out.ok.hi)).set1 5 (.string vk) (Rec.mk nm 5 false 0 0 vk ByteArray.empty lf) rfl (RecOk.mk HW38.out.ok.name hsz HW38.out.ok.words HW38.out.ok.hi)))
  clear hW
  clear x0 x1 x2 x3 x4 x5 x6 x7 f0 f1 f2 f3 f4 f5 f6 f7
  generalize hrr : Rec.mk _ _ _ _ _ _ _ _ = r at HZ
  clear hrr
  obtain ⟨⟨x0, x1, x2, x3, x4, x5, x6, x7⟩, f0, f1, f2, f3, f4, f5, f6, f7⟩ := HZ.out.cells
  go_wp2_with fail
  refine (flip_any b A cap l (at_ + 1 + 1 + 1) 40 _ HZ.out.str (by omega) (by omega) (by omega)).mono ?_
  rintro e W50 ⟨rfl, hs, hg⟩
  have H50 := Lib.hid (HZ.out.call hs hg)
  clear hs hg x0 x1 x2 x3 x4 x5 x6 x7 f0 f1 f2 f3 f4 f5 f6 f7
  obtain ⟨⟨x0, x1, x2, x3, x4, x5, x6, x7⟩, f0, f1, f2, f3, f4, f5, f6, f7⟩ := H50.out.cells
  generalize hfl : (drawOf l (at_ + 1 + 1 + 1) 40 == 0) = fl
  clear hfl
  cases fl
  · obtain ⟨⟨z0, z1, z2, z3, z4, z5, z6, z7⟩, g0, g1, g2, g3, g4, g5, g6, g7⟩ := H50.out.outs
    go_wp2_with fail
    generalize hW : World.setCell _ _ _ = W99
    obtain ⟨hr, hst⟩ := rec_end (at_ := at_) (m := 30) H50.out (by omega) (by omega) hW
    unfold recBox at hr
    obtain ⟨⟨y0, y1, y2, y3, y4, y5, y6, y7⟩, -⟩ := res8 hr
    refine bodyPost_ret (v := .agg #[.string r.name, .int .i64 r.kind, .bool r.six, .int .u64 r.hi, .int .u64 r.lo, .string r.to, .string r.words, .int .i64 r.life]) (by simp [results, Tryz.results17, go_sem, y0, y1, y2, y3, y4, y5, y6, y7]) rfl ⟨r, rfl, H50.out.ok, hst⟩
  · go_wp2_with fail
    have p0 := draw_low l (at_ + 1 + 1 + 1 + 1) 4 (by omega)
    have p1 := draw_high l (at_ + 1 + 1 + 1 + 1) 4 (by omega)
    refine (next_any b A cap l (at_ + 1 + 1 + 1 + 1) 4 _ H50.out.str (by omega) (by omega) (by omega)).mono ?_
    rintro e W51 ⟨rfl, hs, hg⟩
    have H51 := Lib.hid (H50.out.call hs hg)
    clear hs hg x0 x1 x2 x3 x4 x5 x6 x7 f0 f1 f2 f3 f4 f5 f6 f7
    obtain ⟨⟨x0, x1, x2, x3, x4, x5, x6, x7⟩, f0, f1, f2, f3, f4, f5, f6, f7⟩ := H51.out.cells
    generalize drawOf l (at_ + 1 + 1 + 1 + 1) 4 = q at *
    by_cases q0 : q = 0
    · subst q0
      go_wp2_with fail
      refine (pick_any b A cap l (at_ + 1 + 1 + 1 + 1 + 1) _ (H51.out.tmp _).str (by omega) _ [0, 2, 5] (by rw [heap_alloc_new]; rfl) (by have := H51.out.str.lt; omega) (by simp) (by simp) 3 3 rfl).mono ?_
      rintro e W39 ⟨rfl, hs, hg⟩
      have HW39 := Lib.hid ((H51.out.tmp _).call hs hg)
      clear hs hg
      clear x0 x1 x2 x3 x4 x5 x6 x7 f0 f1 f2 f3 f4 f5 f6 f7
      obtain ⟨⟨x0, x1, x2, x3, x4, x5, x6, x7⟩, f0, f1, f2, f3, f4, f5, f6, f7⟩ := HW39.out.cells
      generalize hvk : List.getD _ _ _ = vk
      clear hvk
      obtain ⟨⟨z0, z1, z2, z3, z4, z5, z6, z7⟩, g0, g1, g2, g3, g4, g5, g6, g7⟩ := HW39.out.outs
      go_wp2_with fail
      generalize hW : World.setCell _ _ _ = W99
      obtain ⟨hr, hst⟩ := rec_end (at_ := at_) (m := 30) (HW39.out.set1 1 (.int .i64 vk) (Rec.mk r.name vk r.six r.hi r.lo r.to r.words r.life) rfl (RecOk.mk HW39.out.ok.name HW39.out.ok.to HW39.out.ok.words HW39.out.ok.hi)) (by omega) (by omega) hW
      unfold recBox at hr
      obtain ⟨⟨y0, y1, y2, y3, y4, y5, y6, y7⟩, -⟩ := res8 hr
      dsimp only at y0 y1 y2 y3 y4 y5 y6 y7
      refine bodyPost_ret (v := .agg #[.string r.name, .int .i64 vk, .bool r.six, .int .u64 r.hi, .int .u64 r.lo, .string r.to, .string r.words, .int .i64 r.life]) (by simp [results, Tryz.results17, go_sem, y0, y1, y2, y3, y4, y5, y6, y7]) rfl ⟨(Rec.mk r.name vk r.six r.hi r.lo r.to r.words r.life), rfl, (RecOk.mk HW39.out.ok.name HW39.out.ok.to HW39.out.ok.words HW39.out.ok.hi), hst⟩
    by_cases q1 : q = 1
    · subst q1
      go_wp2_with fail
      refine (raw_any b A cap l (at_ + 1 + 1 + 1 + 1 + 1) _ H51.out.str (by omega)).mono ?_
      rintro e W40 ⟨six, hi, lo, rfl, hhi, xx, hx0, hx1, hs, hg⟩
      have HW40 := Lib.hid (H51.out.call hs hg)
      clear hs hg x0 x1 x2 x3 x4 x5 x6 x7 f0 f1 f2 f3 f4 f5 f6 f7
      obtain ⟨⟨x0, x1, x2, x3, x4, x5, x6, x7⟩, f0, f1, f2, f3, f4, f5, f6, f7⟩ := HW40.out.cells
      obtain ⟨⟨z0, z1, z2, z3, z4, z5, z6, z7⟩, g0, g1, g2, g3, g4, g5, g6, g7⟩ := HW40.out.outs
      go_wp2_with fail
      generalize hW : World.setCell _ _ _ = W99
      obtain ⟨hr, hst⟩ := rec_end (at_ := at_) (m := 30) (((HW40.out.set1 2 (.bool six) (Rec.mk r.name r.kind six r.hi r.lo r.to r.words r.life) rfl (RecOk.mk HW40.out.ok.name HW40.out.ok.to HW40.out.ok.words HW40.out.ok.hi)).set1 3 (.int .u64 hi) (Rec.mk r.name r.kind six hi r.lo r.to r.words r.life) rfl (RecOk.mk HW40.out.ok.name HW40.out.ok.to HW40.out.ok.words hhi)).set1 4 (.int .u64 lo) (Rec.mk r.name r.kind six hi lo r.to r.words r.life) rfl (RecOk.mk HW40.out.ok.name HW40.out.ok.to HW40.out.ok.words hhi)) (by omega) (by omega) hW
      unfold recBox at hr
      obtain ⟨⟨y0, y1, y2, y3, y4, y5, y6, y7⟩, -⟩ := res8 hr
      dsimp only at y0 y1 y2 y3 y4 y5 y6 y7
      refine bodyPost_ret (v := .agg #[.string r.name, .int .i64 r.kind, .bool six, .int .u64 hi, .int .u64 lo, .string r.to, .string r.words, .int .i64 r.life]) (by simp [results, Tryz.results17, go_sem, y0, y1, y2, y3, y4, y5, y6, y7]) rfl ⟨(Rec.mk r.name r.kind six hi lo r.to r.words r.life), rfl, (RecOk.mk HW40.out.ok.name HW40.out.ok.to HW40.out.ok.words hhi), hst⟩
    by_cases q2 : q = 2
    · subst q2
      go_wp2_with fail
      refine (some_any b A cap l (at_ + 1 + 1 + 1 + 1 + 1) _ (H51.out.tmp _).str (by omega) _ [⟨#[]⟩, ⟨#[65]⟩, ⟨#[120]⟩] (by rw [heap_alloc_new]; rfl) (by have := H51.out.str.lt; omega) (by simp) (by simp) 3 3 rfl).mono ?_
      rintro e W41 ⟨rfl, hs, hg⟩
      have HW41 := Lib.hid ((H51.out.tmp _).call hs hg)
      clear hs hg
      clear x0 x1 x2 x3 x4 x5 x6 x7 f0 f1 f2 f3 f4 f5 f6 f7
      obtain ⟨⟨x0, x1, x2, x3, x4, x5, x6, x7⟩, f0, f1, f2, f3, f4, f5, f6, f7⟩ := HW41.out.cells
      have hsz := size_getD (vs := [⟨#[]⟩, ⟨#[65]⟩, ⟨#[120]⟩]) rfl (drawOf l (at_ + 1 + 1 + 1 + 1 + 1) 3).toNat
      revert hsz
      generalize List.getD ([⟨#[]⟩, ⟨#[65]⟩, ⟨#[120]⟩] : List ByteArray) _ _ = vk
      intro hsz
      obtain ⟨⟨z0, z1, z2, z3, z4, z5, z6, z7⟩, g0, g1, g2, g3, g4, g5, g6, g7⟩ := HW41.out.outs
      go_wp2_with fail
      generalize hW : World.setCell _ _ _ = W99
      obtain ⟨hr, hst⟩ := rec_end (at_ := at_) (m := 30) (HW41.out.set1 5 (.string vk) (Rec.mk r.name r.kind r.six r.hi r.lo vk r.words r.life) rfl (RecOk.mk HW41.out.ok.name hsz HW41.out.ok.words HW41.out.ok.hi)) (by omega) (by omega) hW
      unfold recBox at hr
      obtain ⟨⟨y0, y1, y2, y3, y4, y5, y6, y7⟩, -⟩ := res8 hr
      dsimp only at y0 y1 y2 y3 y4 y5 y6 y7
      refine bodyPost_ret (v := .agg #[.string r.name, .int .i64 r.kind, .bool r.six, .int .u64 r.hi, .int .u64 r.lo, .string vk, .string r.words, .int .i64 r.life]) (by simp [results, Tryz.results17, go_sem, y0, y1, y2, y3, y4, y5, y6, y7]) rfl ⟨(Rec.mk r.name r.kind r.six r.hi r.lo vk r.words r.life), rfl, (RecOk.mk HW41.out.ok.name hsz HW41.out.ok.words HW41.out.ok.hi), hst⟩
    have e0 : (q == 0) = false := by simpa using q0
    have e1 : (q == 1) = false := by simpa using q1
    have e2 : (q == 2) = false := by simpa using q2
    go_wp2_with fail
    refine (some_any b A cap l (at_ + 1 + 1 + 1 + 1 + 1) _ (H51.out.tmp _).str (by omega) _ [⟨#[32, 120]⟩, ⟨#[97, 10, 98]⟩, ⟨#[]⟩, ⟨#[121]⟩] (by rw [heap_alloc_new]; rfl) (by have := H51.out.str.lt; omega) (by simp) (by simp) 4 4 rfl).mono ?_
    rintro e W42 ⟨rfl, hs, hg⟩
    have HW42 := Lib.hid ((H51.out.tmp _).call hs hg)
    clear hs hg
    clear x0 x1 x2 x3 x4 x5 x6 x7 f0 f1 f2 f3 f4 f5 f6 f7
    obtain ⟨⟨x0, x1, x2, x3, x4, x5, x6, x7⟩, f0, f1, f2, f3, f4, f5, f6, f7⟩ := HW42.out.cells
    have hsz := asc8_getD (vs := [⟨#[32, 120]⟩, ⟨#[97, 10, 98]⟩, ⟨#[]⟩, ⟨#[121]⟩]) rfl (drawOf l (at_ + 1 + 1 + 1 + 1 + 1) 4).toNat
    revert hsz
    generalize List.getD ([⟨#[32, 120]⟩, ⟨#[97, 10, 98]⟩, ⟨#[]⟩, ⟨#[121]⟩] : List ByteArray) _ _ = vk
    intro hsz
    go_wp2_with fail
    refine (odd_any b A cap l (at_ + 1 + 1 + 1 + 1 + 1 + 1) 0 1000000 _ HW42.out.str (by omega) (by omega) (by omega) (by omega)).mono ?_
    rintro e W43 ⟨rfl, hs, hg⟩
    have HW43 := Lib.hid (HW42.out.call hs hg)
    clear hs hg
    clear x0 x1 x2 x3 x4 x5 x6 x7 f0 f1 f2 f3 f4 f5 f6 f7
    obtain ⟨⟨x0, x1, x2, x3, x4, x5, x6, x7⟩, f0, f1, f2, f3, f4, f5, f6, f7⟩ := HW43.out.cells
    generalize oddOf l (at_ + 1 + 1 + 1 + 1 + 1 + 1) 0 1000000 = od at *
    obtain ⟨⟨z0, z1, z2, z3, z4, z5, z6, z7⟩, g0, g1, g2, g3, g4, g5, g6, g7⟩ := HW43.out.outs
    go_wp2_with fail
    generalize hW : World.setCell _ _ _ = W99
    obtain ⟨hr, hst⟩ := rec_end (at_ := at_) (m := 30) ((HW43.out.set1 6 (.string vk) (Rec.mk r.name r.kind r.six r.hi r.lo r.to vk r.life) rfl (RecOk.mk HW43.out.ok.name HW43.out.ok.to hsz HW43.out.ok.hi)).set1 7 (.int .i64 od) (Rec.mk r.name r.kind r.six r.hi r.lo r.to vk od) rfl (RecOk.mk HW43.out.ok.name HW43.out.ok.to hsz HW43.out.ok.hi)) (by omega) (by omega) hW
    unfold recBox at hr
    obtain ⟨⟨y0, y1, y2, y3, y4, y5, y6, y7⟩, -⟩ := res8 hr
    dsimp only at y0 y1 y2 y3 y4 y5 y6 y7
    refine bodyPost_ret (v := .agg #[.string r.name, .int .i64 r.kind, .bool r.six, .int .u64 r.hi, .int .u64 r.lo, .string r.to, .string vk, .int .i64 od]) (by simp [results, Tryz.results17, go_sem, y0, y1, y2, y3, y4, y5, y6, y7]) rfl ⟨(Rec.mk r.name r.kind r.six r.hi r.lo r.to vk od), rfl, (RecOk.mk HW43.out.ok.name HW43.out.ok.to hsz HW43.out.ok.hi), hst⟩
end Go.Proofs.YtedpjecbfcogcaaGreatDoor
