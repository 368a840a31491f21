/- Tracked flows in memory. -/
import Derived.Test.YtgmeblgfcmkcgaaGreatDoorRwB
import Derived.Test.YtgmeblgfcmkcgaaGreatDoorPkA
import Derived.OwnWalk
import Derived.Deep.RegionHeld3
import Derived.Deep.RegionLaw
import Derived.Deep.Cut
import Derived.Deep.CutRange
import Derived.StillTailTactics
import Derived.Test.YtgmeblgfcmkcgaaGreatDoorShelf
namespace Go.Proofs.YtgmeblgfcmkcgaaGreatDoor
open Go.RowKit Go.Hw

def tkC (e : Tk) : List Value := [.int .i64 e.f.proto, .bool e.f.s6, .int .u64 e.f.sh, .int .u64 e.f.sl, .bool e.f.t6, .int .u64 e.f.th, .int .u64 e.f.tl, .int .i64 e.f.fp, .int .i64 e.f.tp, .int .i64 e.last, .bool e.ans, .bool e.done]
theorem tkC_len (e : Tk) : (tkC e).length = 12 := rfl
abbrev tkAt (w : World) (A : Option Addr) (L : List Tk) : Prop := RwAt tkC 12 noTk w A L
abbrev tkOwn (w : World) (base : Nat) (v : Value) (L : List Tk) : Prop := w.ownsRow base 128 12 v L.length (rwC tkC L)
theorem tk_cells {w : World} {g o : Nat} {e : Tk} (h : RwCells w g o (tkC e)) : w.cell? ⟨g, o, none⟩ = some (.int .i64 e.f.proto) ∧ w.cell? ⟨g, o + 1, none⟩ = some (.bool e.f.s6) ∧ w.cell? ⟨g, o + 2, none⟩ = some (.int .u64 e.f.sh) ∧ w.cell? ⟨g, o + 3, none⟩ = some (.int .u64 e.f.sl) ∧ w.cell? ⟨g, o + 4, none⟩ = some (.bool e.f.t6) ∧ w.cell? ⟨g, o + 5, none⟩ = some (.int .u64 e.f.th) ∧ w.cell? ⟨g, o + 6, none⟩ = some (.int .u64 e.f.tl) ∧ w.cell? ⟨g, o + 7, none⟩ = some (.int .i64 e.f.fp) ∧ w.cell? ⟨g, o + 8, none⟩ = some (.int .i64 e.f.tp) ∧ w.cell? ⟨g, o + 9, none⟩ = some (.int .i64 e.last) ∧ w.cell? ⟨g, o + 10, none⟩ = some (.bool e.ans) ∧ w.cell? ⟨g, o + 11, none⟩ = some (.bool e.done) := ⟨h 0 _ rfl, h 1 _ rfl, h 2 _ rfl, h 3 _ rfl, h 4 _ rfl, h 5 _ rfl, h 6 _ rfl, h 7 _ rfl, h 8 _ rfl, h 9 _ rfl, h 10 _ rfl, h 11 _ rfl⟩

/-- What is asked of a closure over these structs. -/
def tkPred (g : Nat) (lb : Array Value) (p : Tk → Bool) (L : List Tk) (w : World) : Prop :=
  ∀ (W : World) (e : Tk), e ∈ L → Below w.heap.size w W → Calls Tryz.prog g (#[.agg #[.int .i64 e.f.proto, .bool e.f.s6, .int .u64 e.f.sh, .int .u64 e.f.sl, .bool e.f.t6, .int .u64 e.f.th, .int .u64 e.f.tl, .int .i64 e.f.fp, .int .i64 e.f.tp, .int .i64 e.last, .bool e.ans, .bool e.done]] ++ lb) W fun en w' => en = .returned (.bool (p e)) ∧ Below W.heap.size W w'

set_option maxRecDepth 100000 in
set_option maxHeartbeats 1000000 in
theorem tk_idx (A : Option Addr) (cap : Nat) (L : List Tk) (g : Nat) (lb : Array Value) (p : Tk → Bool) (w : World) (eg : ∀ args w, (callFunc g args).run Tryz.prog w = .ok (.enter g args) w)
    (h : tkAt w A L) (hl : L.length ≤ 1000000) (hp : tkPred g lb p L w) :
    Calls Tryz.prog 59 #[.slice A L.length cap, .func (.func g) #[] lb] w fun e w' => e = .returned (.int .i64 (rwIdx p L)) ∧ Below w.heap.size w w' := by
  go_enter Tryz.func59, Tryz.ntmps59
  go_wp2_with fail
  go_loopw [8] (fun v wr => ∃ k : Nat, k ≤ L.length ∧ v = .int .i64 k ∧ (∀ j, j < k → p (L.getD j noTk) = false) ∧ Below w.heap.size w wr) (fun v _ => L.length - (intOf v).toNat)
  case atStart => exact ⟨0, Nat.zero_le _, rfl, fun j hj => by omega, Below.refl _ _⟩
  case round =>
    obtain ⟨k, hk, rfl, hf, hb⟩ := hrel
    have hlr := h.below hb
    by_cases hlt : k < L.length
    · obtain ⟨g5, off, rfl, hgB, hcc⟩ := hlr k hlt
      obtain ⟨c0, c1, c2, c3, c4, c5, c6, c7, c8, c9, c10, c11⟩ := tk_cells hcc
      have HCALL := hp wr (L.getD k noTk) (rw_mem hlt) hb
      generalize hx : L.getD k noTk = x at *
      have HF := Lib.hid hf
      have HX := Lib.hid hx
      have HB := Lib.hid hb
      clear hf hx hp hb hlr h hcc
      have hd : decide ((k : Int) < (L.length : Int)) = true := by simp; omega
      cases hq : p x
      · rw [hq] at HCALL
        go_wp2_with (go_at_fn g; refine HCALL.mono ?_; rintro e w1 ⟨rfl, hb1⟩)
        go_roundw
        case rel => exact ⟨k + 1, by omega, by go_num, fun j hj => (by
          by_cases e : j = k
          · rw [e, HX.out]; exact hq
          · exact HF.out j (by omega)), HB.out.trans (hb1.mono HB.out.size)⟩
        case measure => simp [intOf]; omega
      · rw [hq] at HCALL
        go_wp2_with (go_at_fn g; refine HCALL.mono ?_; rintro e w1 ⟨rfl, hb1⟩)
        go_ret
        exact ⟨ret_eq (rwIdx_at hlt HF.out (by rw [HX.out]; exact hq)).symm, HB.out.trans (hb1.mono HB.out.size)⟩
    · have : k = L.length := by omega
      subst this
      have HF := Lib.hid hf
      clear hf
      go_wp2_with fail
      go_ret
      exact ⟨ret_eq (rwIdx_none HF.out).symm, hb⟩

theorem tk_zero (w : World) : (zeroValue 128).run Tryz.prog w = .ok (.agg #[.int .i64 0, .bool false, .int .u64 0, .int .u64 0, .bool false, .int .u64 0, .int .u64 0, .int .i64 0, .int .i64 0, .int .i64 0, .bool false, .bool false]) w := by kernel_rfl
def tkZ : Array Value := #[.int .i64 0, .bool false, .int .u64 0, .int .u64 0, .bool false, .int .u64 0, .int .u64 0, .int .i64 0, .int .i64 0, .int .i64 0, .bool false, .bool false]
theorem tk_clear (w : World) (ty : TypeId) (b o n c : Nat) (hn : 0 < n) (hc : ∀ j, j < n * 12 → (w.cell? ⟨b, o + j, none⟩).isSome = true) (hf : ∀ j, j < n * 12 → w.frozen? ⟨b, o + j, none⟩ = false) :
    (Builtin.clear_ #[59] ty #[.slice (some ⟨b, o, none⟩) n c]).run Tryz.prog w = .ok (.tuple #[]) (w.setCells b o (Builtin.zeroCells tkZ n).toList) := by
  have hl : (Builtin.zeroCells tkZ n).toList.length = n * 12 := by
    simp [Builtin.zeroCells, tkZ]
  have h1 : ∀ v ∈ (Builtin.zeroCells tkZ n).toList, v.oneCell' = true := by
    intro v hv
    simp only [Builtin.zeroCells, Array.toList_map, List.mem_map] at hv
    obtain ⟨i, _, rfl⟩ := hv
    have hi : i % tkZ.size < 12 := Nat.mod_lt _ (by decide)
    generalize i % tkZ.size = k at hi
    have : k = 0 ∨ k = 1 ∨ k = 2 ∨ k = 3 ∨ k = 4 ∨ k = 5 ∨ k = 6 ∨ k = 7 ∨ k = 8 ∨ k = 9 ∨ k = 10 ∨ k = 11 := by omega
    rcases this with rfl | rfl | rfl | rfl | rfl | rfl | rfl | rfl | rfl | rfl | rfl | rfl <;> rfl
  have hst := run_storeCells_cells (P := Tryz.prog) b o (Builtin.zeroCells tkZ n).toList 0 w (by rw [hl]; simpa using hc) (by rw [hl]; simpa using hf) h1
  simp only [Nat.add_zero] at hst
  have hz := tk_zero w
  obtain ⟨m, rfl⟩ : ∃ m, n = m + 1 := ⟨n - 1, by omega⟩
  have hcells : (Value.agg #[.int .i64 0, .bool false, .int .u64 0, .int .u64 0, .bool false, .int .u64 0, .int .u64 0, .int .i64 0, .int .i64 0, .int .i64 0, .bool false, .bool false]).cells = tkZ := rfl
  simp [Builtin.clear_, run_underlying Tryz.underlying59, hz, hcells, hst]

theorem tk_res {W : World} {R : Nat} {a0 a1 a2 a3 a4 a5 a6 a7 a8 a9 a10 a11 : Value} {T : TypeId} (h : W.heap[R]? = some (.cells #[a0, a1, a2, a3, a4, a5, a6, a7, a8, a9, a10, a11] T (0, 0))) : W.cell? ⟨R, 0, none⟩ = some a0 ∧ W.cell? ⟨R, 1, none⟩ = some a1 ∧ W.cell? ⟨R, 2, none⟩ = some a2 ∧ W.cell? ⟨R, 3, none⟩ = some a3 ∧ W.cell? ⟨R, 4, none⟩ = some a4 ∧ W.cell? ⟨R, 5, none⟩ = some a5 ∧ W.cell? ⟨R, 6, none⟩ = some a6 ∧ W.cell? ⟨R, 7, none⟩ = some a7 ∧ W.cell? ⟨R, 8, none⟩ = some a8 ∧ W.cell? ⟨R, 9, none⟩ = some a9 ∧ W.cell? ⟨R, 10, none⟩ = some a10 ∧ W.cell? ⟨R, 11, none⟩ = some a11 := by
  refine ⟨?_, ?_, ?_, ?_, ?_, ?_, ?_, ?_, ?_, ?_, ?_, ?_⟩ <;> simp [World.cell?, h]
set_option maxRecDepth 100000 in
set_option maxHeartbeats 400000 in
theorem tk_delNone (A : Option Addr) (cap : Nat) (L : List Tk) (g : Nat) (lb : Array Value) (p : Tk → Bool) (w : World) (eg : ∀ args w, (callFunc g args).run Tryz.prog w = .ok (.enter g args) w)
    (h : tkAt w A L) (hl : L.length ≤ 1000000) (hp : tkPred g lb p L w) (hr : rwIdx p L = -1) :
    Calls Tryz.prog 56 #[.slice A L.length cap, .func (.func g) #[] lb] w fun e w' => e = .returned (.slice A L.length cap) ∧ Below w.heap.size w w' := by
  have hcall := tk_idx A cap L g lb p w eg h hl hp
  rw [hr] at hcall
  clear hr hp h
  go_enter Tryz.func56, Tryz.ntmps56
  go_wp2_with fail
  refine hcall.mono ?_
  rintro e w1 ⟨rfl, hb⟩
  go_wp2_with fail
  go_ret
  exact ⟨rfl, hb⟩

/-- The loop of DeleteFunc: what stays has been moved ahead, and what is behind is as it was. -/
def tkDelI (w : World) (g cap : Nat) (p : Tk → Bool) (L : List Tk) (i j : Nat) (wr : World) : Prop :=
  j ≤ L.length ∧ i = (rwKept p L j).length ∧ i < j ∧ w.grownBy wr (some g) ∧ ∃ M : List Tk, M.length = L.length ∧ M.take i = rwKept p L j ∧ (∀ t, j ≤ t → M.getD t noTk = L.getD t noTk) ∧
    tkOwn wr 0 (.slice (some ⟨g, 0, none⟩) M.length cap) M

set_option maxRecDepth 100000 in
set_option maxHeartbeats 2000000 in
theorem tk_delSome (gb cap : Nat) (L : List Tk) (g : Nat) (lb : Array Value) (p : Tk → Bool) (w : World) (eg : ∀ args w, (callFunc g args).run Tryz.prog w = .ok (.enter g args) w)
    (h : tkOwn w 0 (.slice (some ⟨gb, 0, none⟩) L.length cap) L) (hl : L.length ≤ 1000000) (hp : ∀ wr, w.grownBy wr (some gb) → tkPred g lb p L wr) (i0 : Nat) (hi0 : i0 < L.length) (hr : rwIdx p L = i0) :
    Calls Tryz.prog 56 #[.slice (some ⟨gb, 0, none⟩) L.length cap, .func (.func g) #[] lb] w
      fun e w' => e = .returned (.slice (some ⟨gb, 0, none⟩) (L.filter (fun e => !p e)).length cap) ∧ w.grownBy w' (some gb) ∧
        tkOwn w' 0 (.slice (some ⟨gb, 0, none⟩) (L.filter (fun e => !p e)).length cap) (L.filter (fun e => !p e)) := by
  have hcall := tk_idx (some ⟨gb, 0, none⟩) cap L g lb p w eg (rw_at' tkC_len h) hl (hp w (World.grownBy.refl w _))
  rw [hr] at hcall
  have hcap : L.length ≤ cap := rw_cap h
  have H := Lib.hid h
  have HP := Lib.hid hp
  have HR := Lib.hid hr
  clear h hp hr
  go_enter Tryz.func56, Tryz.ntmps56
  go_wp2_with fail
  refine hcall.mono ?_
  rintro e w1 ⟨rfl, hb1⟩
  obtain ⟨_, hno, hyes⟩ := rwIdx_spec (d := noTk) HR.out
  have hI : tkDelI w gb cap p L i0 (i0 + 1) w1 := by
    have hk : rwKept p L (i0 + 1) = L.take i0 := by rw [rwKept_snoc (d := noTk) hi0, hyes, if_pos rfl, rwKept_first hno (by omega)]
    have hg1 := grownB hb1 (some gb)
    refine ⟨by omega, by rw [hk]; simp; omega, by omega, hg1, L, rfl, hk.symm, fun _ _ => rfl, ?_⟩
    exact rw_same H.out fun k hk => hb1.block k (H.out.lt k hk).2
  have HI := Lib.hid hI
  clear hcall hb1 hI hno hyes
  have hne : ((i0 : Int) == -1) = false := by simp
  go_wp2_with fail
  clear hne
  go_loopw [5, 6] (fun v5 v6 wr => ∃ i j : Nat, v5 = .int .i64 i ∧ v6 = .int .i64 j ∧ tkDelI w gb cap p L i j wr) (fun _ v6 _ => L.length - (intOf v6).toNat)
  case atStart => exact ⟨i0, i0 + 1, rfl, by simp, HI.out⟩
  case round =>
    obtain ⟨i, j, rfl, rfl, hj, hi, hij, hg, M, hM, htk, hdr, hown⟩ := hrel
    clear HI
    by_cases hlt : j < L.length
    · have hEM : tkAt wr (some ⟨gb, 0, none⟩) M := rw_at' tkC_len hown
      have hgb := (hown.lt gb rfl).2
      obtain ⟨c0, c1, c2, c3, c4, c5, c6, c7, c8, c9, c10, c11⟩ := tk_cells (w := wr) (g := gb) (o := j * 12) (e := L.getD j noTk) (by
        obtain ⟨g5, off, e1, hgB, hc⟩ := hEM j (by omega)
        injection e1 with e1
        simp only [Addr.mk.injEq, and_true] at e1
        obtain ⟨rfl, rfl⟩ := e1
        rw [hdr j (Nat.le_refl _), Nat.zero_add] at hc
        exact hc)
      have hsn := rwKept_snoc (p := p) (d := noTk) hlt
      have hmem : L.getD j noTk ∈ L := rw_mem hlt
      have hdl : decide (j < L.length) = true := by simpa using hlt
      generalize hx : L.getD j noTk = x at *
      have HCALL := HP.out wr hg (wr.alloc (.cells #[.int .i64 x.f.proto, .bool x.f.s6, .int .u64 x.f.sh, .int .u64 x.f.sl, .bool x.f.t6, .int .u64 x.f.th, .int .u64 x.f.tl, .int .i64 x.f.fp, .int .i64 x.f.tp, .int .i64 x.last, .bool x.ans, .bool x.done] 128)) x hmem ((Below.refl _ _).alloc (Nat.le_refl _) _)
      have HG := Lib.hid hg
      have HK := Lib.hid htk
      have HD := Lib.hid hdr
      have HO := Lib.hid hown
      have HS := Lib.hid hsn
      have HII := Lib.hid hi
      have HMM := Lib.hid hM
      have HX := Lib.hid hx
      clear hg htk hdr hown hsn hi hM hEM hmem hx
      cases hq : p x
      · rw [hq] at HCALL
        go_wp2_with fail
        refine HCALL.mono ?_
        rintro e w2 ⟨rfl, hb2⟩
        have hbx := (hb2.block wr.heap.size (by simp)).trans (heap_alloc_new wr _)
        obtain ⟨b0, b1, b2, b3, b4, b5, b6, b7, b8, b9, b10, b11⟩ := tk_res hbx
        have hO2 := rw_same HO.out (w' := w2) fun k hk => (hb2.block k (by have := (HO.out.lt k hk).2; simp; omega)).trans (heap_alloc_old _ _ (HO.out.lt k hk).2)
        have z0 := rw_froz hO2 (i * 12)
        have z1 := rw_froz hO2 (i * 12 + 1)
        have z2 := rw_froz hO2 (i * 12 + 2)
        have z3 := rw_froz hO2 (i * 12 + 3)
        have z4 := rw_froz hO2 (i * 12 + 4)
        have z5 := rw_froz hO2 (i * 12 + 5)
        have z6 := rw_froz hO2 (i * 12 + 6)
        have z7 := rw_froz hO2 (i * 12 + 7)
        have z8 := rw_froz hO2 (i * 12 + 8)
        have z9 := rw_froz hO2 (i * 12 + 9)
        have z10 := rw_froz hO2 (i * 12 + 10)
        have z11 := rw_froz hO2 (i * 12 + 11)
        obtain ⟨o0, s0⟩ := Option.isSome_iff_exists.1 (rw_some hO2 (j := i * 12) (by have := HMM.out; omega))
        obtain ⟨o1, s1⟩ := Option.isSome_iff_exists.1 (rw_some hO2 (j := i * 12 + 1) (by have := HMM.out; omega))
        obtain ⟨o2, s2⟩ := Option.isSome_iff_exists.1 (rw_some hO2 (j := i * 12 + 2) (by have := HMM.out; omega))
        obtain ⟨o3, s3⟩ := Option.isSome_iff_exists.1 (rw_some hO2 (j := i * 12 + 3) (by have := HMM.out; omega))
        obtain ⟨o4, s4⟩ := Option.isSome_iff_exists.1 (rw_some hO2 (j := i * 12 + 4) (by have := HMM.out; omega))
        obtain ⟨o5, s5⟩ := Option.isSome_iff_exists.1 (rw_some hO2 (j := i * 12 + 5) (by have := HMM.out; omega))
        obtain ⟨o6, s6⟩ := Option.isSome_iff_exists.1 (rw_some hO2 (j := i * 12 + 6) (by have := HMM.out; omega))
        obtain ⟨o7, s7⟩ := Option.isSome_iff_exists.1 (rw_some hO2 (j := i * 12 + 7) (by have := HMM.out; omega))
        obtain ⟨o8, s8⟩ := Option.isSome_iff_exists.1 (rw_some hO2 (j := i * 12 + 8) (by have := HMM.out; omega))
        obtain ⟨o9, s9⟩ := Option.isSome_iff_exists.1 (rw_some hO2 (j := i * 12 + 9) (by have := HMM.out; omega))
        obtain ⟨o10, s10⟩ := Option.isSome_iff_exists.1 (rw_some hO2 (j := i * 12 + 10) (by have := HMM.out; omega))
        obtain ⟨o11, s11⟩ := Option.isSome_iff_exists.1 (rw_some hO2 (j := i * 12 + 11) (by have := HMM.out; omega))
        have HO2 := Lib.hid hO2
        have HG2 := Lib.hid ((HG.out.andThen (World.grownBy_alloc _ _ (some gb)) (fun _ h => .inr h)).andThen (grownB hb2 (some gb)) (fun _ h => .inr h))
        have dil : decide (i < L.length) = true := by simp; omega
        have hil : i < L.length := by omega
        clear hb2 hbx hO2 HO HG HCALL c0 c1 c2 c3 c4 c5 c6 c7 c8 c9 c10 c11
        go_wp2_with fail
        clear b0 b1 b2 b3 b4 b5 b6 b7 b8 b9 b10 b11 z0 z1 z2 z3 z4 z5 z6 z7 z8 z9 z10 z11 s0 s1 s2 s3 s4 s5 s6 s7 s8 s9 s10 s11
        generalize hW : World.setCell _ _ _ = W3
        have hO3 := rw_put tkC_len HO2.out i x (by have := HMM.out; omega)
        rw [show w2.setCells gb (i * 12) (tkC x) = W3 from hW] at hO3
        have hG3 : w.grownBy W3 (some gb) := by
          rw [← show w2.setCells gb (i * 12) (tkC x) = W3 from hW]
          exact rw_gsets _ _ _ HG2.out
        clear hW HO2 HG2
        go_roundw
        case rel =>
          refine ⟨i + 1, j + 1, by go_num, by go_num, by omega, ?_, by omega, hG3, M.set i x, by rw [List.length_set]; exact HMM.out, ?_, fun t ht => ?_, hO3⟩
          · rw [HS.out, hq, if_neg (by simp), List.length_append, ← HII.out]; rfl
          · rw [HS.out, hq, if_neg (by simp), ← HK.out]
            have hiM : i < M.length := by have := HMM.out; omega
            rw [List.take_succ_eq_append_getElem (by simpa using hiM), List.getElem_set_self, List.take_set_of_le (Nat.le_refl _)]
          · rw [List.getD_eq_getElem?_getD, List.getElem?_set_ne (by omega), ← List.getD_eq_getElem?_getD]
            exact HD.out t (by omega)
        case measure => simp [intOf]; omega
      · rw [hq] at HCALL
        go_wp2_with (go_at_fn g; refine HCALL.mono ?_; rintro e w2 ⟨rfl, hb2⟩)
        go_roundw
        case rel => exact ⟨i, j + 1, rfl, by go_num, by omega, (by rw [HS.out, hq, if_pos rfl]; exact HII.out), by omega, (HG.out.andThen (World.grownBy_alloc _ _ (some gb)) (fun _ h => .inr h)).andThen (grownB hb2 (some gb)) (fun _ h => .inr h), M, HMM.out, by rw [HS.out, hq, if_pos rfl]; exact HK.out, fun t ht => HD.out t (by omega), rw_same HO.out fun k hk => (hb2.block k (by have := (HO.out.lt k hk).2; simp; omega)).trans (heap_alloc_old _ _ (HO.out.lt k hk).2)⟩
        case measure => simp [intOf]; omega
    · have hje : j = L.length := by omega
      subst hje
      have hdl : decide (L.length < L.length) = false := by simp
      rw [rwKept_all] at hi htk
      generalize hK : L.filter (fun e => !p e) = K at *
      subst hi
      have hic : K.length < cap := by omega
      have hce : ((K.length : Int) == (cap : Int)) = false := by simp; omega
      have hcl := fun ty => tk_clear wr ty gb (K.length * 12) (L.length - K.length) (cap - K.length) (by omega) (fun t ht => rw_some hown (by rw [hM]; omega)) (fun t _ => rw_froz hown _)
      have hsc := rw_setCells (Builtin.zeroCells tkZ (L.length - K.length)).toList (K.length * 12) wr _ (rw_cut hown (k := K.length) (by rw [hM]; omega))
      rw [rwC_take tkC_len, htk, rwSets_far _ _ _ (Nat.le_of_eq (rwC_length tkC_len _))] at hsc
      have hsg := rw_gsets (w := wr) (g := gb) (Builtin.zeroCells tkZ (L.length - K.length)).toList (K.length * 12) wr (World.grownBy.refl wr _)
      have HSC := Lib.hid hsc
      have HSG := Lib.hid hsg
      have HG := Lib.hid hg
      have HKK := Lib.hid hK
      clear hsc hg hdr hown htk hK hsg
      go_wp2_with fail
      go_ret
      rw [HKK.out]
      exact ⟨rfl, HG.out.andThen HSG.out (fun _ h => .inr h), HSC.out⟩

/-- slices.DeleteFunc, whatever goes. -/
theorem tk_del (A : Option Addr) (cap : Nat) (L : List Tk) (g : Nat) (lb : Array Value) (p : Tk → Bool) (w : World) (eg : ∀ args w, (callFunc g args).run Tryz.prog w = .ok (.enter g args) w)
    (h : tkOwn w 0 (.slice A L.length cap) L) (hl : L.length ≤ 1000000) (hp : ∀ wr, w.grownBy wr (Value.slice A L.length cap).ownBlock → tkPred g lb p L wr) :
    Calls Tryz.prog 56 #[.slice A L.length cap, .func (.func g) #[] lb] w
      fun e w' => e = .returned (.slice A (L.filter (fun e => !p e)).length cap) ∧ w.grownBy w' (Value.slice A L.length cap).ownBlock ∧
        tkOwn w' 0 (.slice A (L.filter (fun e => !p e)).length cap) (L.filter (fun e => !p e)) := by
  rcases rwIdx_any p L with ⟨h1, h2⟩ | ⟨h1, h2⟩
  · obtain ⟨i, hr⟩ := rwIdx_found h2
    obtain ⟨hi, _, _⟩ := rwIdx_spec (d := noTk) hr
    obtain ⟨gb, rfl⟩ : ∃ gb, A = some ⟨gb, 0, none⟩ := by
      rcases h.2 with ⟨h1, h2⟩ | ⟨g, cap', cur, h1, _⟩
      · omega
      · injection h1 with h1; exact ⟨g, h1⟩
    exact tk_delSome gb cap L g lb p w eg h hl hp i hi hr
  · have hall : ∀ e ∈ L, p e = false := fun e he => by
      cases hq : p e with
      | false => rfl
      | true => rw [List.any_eq_true.2 ⟨e, he, hq⟩] at h1; cases h1
    have hf : L.filter (fun e => !p e) = L := List.filter_eq_self.2 fun e he => by simp [hall e he]
    refine (tk_delNone A cap L g lb p w eg (rw_at' tkC_len h) hl (hp w (World.grownBy.refl w _)) h2).mono ?_
    rintro e w' ⟨rfl, hb⟩
    rw [hf]
    exact ⟨rfl, grownB hb _, rw_same h fun k hk => hb.block k (h.lt k hk).2⟩

end Go.Proofs.YtgmeblgfcmkcgaaGreatDoor
